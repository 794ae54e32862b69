/-
  Texts of the claim, one behind the other: SymR, SymG1, SymG2, Sym, Stable, Clone, Compact, Compact2, Compact3, Sort, Prg6, Prg7, Split, Prg8.
-/
import Derived.Test.YtnplommdgfgboaaGreatDoorJ4
import Derived.Lib.SplitLaws
import Derived.Lib.CountLaws
import Derived.Lib.IndexLaws
set_option linter.unusedVariables false
set_option linter.unusedSimpArgs false
set_option maxHeartbeats 25600000
set_option maxRecDepth 100000
open Go.Proofs.Tryz
namespace Go.Proofs.YtnplommdgfgboaaGreatDoor
namespace SortW
open Go.RowKit Go.Lib B Rd Utf TermPure LinesPure Tx Env Tri SortP Print Cmp Long
theorem sym_right (P A Q:List Triple) (y:Triple) (L:Nat) (hL:(P ++ (A ++ ([y] ++ Q))).length = L) (hLs:L <= 140737488355328) (a m b cap:Nat) (ha:a = P.length) (hm:m = a + A.length) (hb:b = m + 1) (h2:2 <= A.length) (hA:Sorted' A) (hsx:SmallT y) (hsm:∀ t ∈ A,SmallT t) (g:Nat) (W w:World)
  (hS:SR W g (P ++ (A ++ ([y] ++ Q))) w) :
  Calls Tryz.prog 195 #[.slice (some ⟨g,0,none⟩) L cap,.int .i64 a,.int .i64 m,.int .i64 b,cmpV] w fun e w'=>e = .returned (.tuple #[])/\∃ R,R.Perm (A ++ [y])/\Sorted' R/\SR W g (P ++ (R ++ Q)) w':=by
 have hlen:=hL;simp only [Zl,List.length_singleton] at hlen;have hmL:m < L:=by omega
 have ham:a <= m:=by omega
 have HA:=Zz (show a = P.length/\m = P.length + A.length/\b = m + 1 from ⟨ha,by omega,hb⟩);have HAs:=Zz hA;have HSm:=Zz hsm;have HSx:=Zz hsx;have HS0:=Zz hS;obtain ⟨d0,hd0⟩:∃ d0,d0 = m - a:=⟨_,rfl⟩;have w0:IntKind.i64.wrap ((m:Int) - (a:Int)) = (d0:Int):=by rw [Zw];omega
 have w00:((d0:Int) == 1) = false:=by rw [Zb];omega
 have w01:IntKind.i64.wrap ((b:Int) - (m:Int)) = 1:=by rw [Zw];omega
 clear hS hL hlen ha hb hA hsx hsm hm hd0 h2;unfold cmpV;go_enter func195,ntmps195;go_wp2;go_loopw [14,15] (fun vi vj wr=>∃ i j:Nat,vi = .int .i64 i/\vj = .int .i64 j/\a <= i/\i <= j/\j <= m/\Hid ((i = a \/ ∃ x,A[i - 1 - a]? = some x/\¬ ltT y x)/\(j = m \/ ∃ x,A[j - a]? = some x/\ltT y x)/\SR W g (P ++ (A ++ ([y] ++ Q))) wr)) (fun vi vj _=>(intOf vj).toNat - (intOf vi).toNat)
 case atStart=>exact ⟨a,m,rfl,rfl,by omega,by omega,by omega,Zz ⟨.inl rfl,.inl rfl,HS0.o⟩⟩
 case round =>
  obtain ⟨i,j,rfl,rfl,hmi,hij,hjb,HR⟩:=hrel;clear HS0 w0 w00 w01;by_cases hlt:i < j
  ·
   have hd:decide (i < j) = true:=dT hlt;obtain ⟨h,hh⟩:∃ h,h = (i + j) / 2:=⟨_,rfl⟩;have hq:((i:Int) + (j:Int)) / 2 = (h:Int):=by omega
   have hhb:(h:Int) < (L:Int):=by omega
   have hab:(m:Int) < (L:Int):=by omega
   have hih:i <= h:=by omega
   have hhj:h < j:=by omega
   clear hh;have hAl:h - a < A.length:=by have h1:=HA.o.1;have h2:=HA.o.2.1;omega
   obtain ⟨x,hx⟩:∃ x,A[h - a]? = some x:=⟨_,Zg hAl⟩;have hrow:(P ++ (A ++ ([y] ++ Q)))[h]? = some x:=by
    rw [<- hx,<- at_A (P:=P) (A:=A) (B:=[y]) (Q:=Q) hAl];congr 1;have:=HA.o.1;omega
   have hrow0:(P ++ (A ++ ([y] ++ Q)))[m]? = some y:=by
    have:=at_B (P:=P) (A:=A) (B:=[y]) (Q:=Q) (k:=0) (by simp);rw [HA.o.2.1];rw [Nat.add_zero] at this;rw [this]
    try rfl
   have hch:=HR.o.2.2.at hrow;have hcm:=HR.o.2.2.at hrow0;have hgl:=hch.lt;have HBk:Hid (∀ w2,Below wr.heap.size wr w2 -> SR W g (P ++ (A ++ ([y] ++ Q))) w2):=Zz (fun w2 hb=>HR.o.2.2.below hgl hb);have HC:=Zz (fun w=>cmp_calls y x HSx.o (HSm.o x (List.mem_of_getElem? hx)) w);have HLt:Hid (cmpT y x < 0 ↔ ltT y x):=Zz Iff.rfl;have HX:=Zz hx;have HI:=Zz HR.o.1;have HJ:=Zz HR.o.2.1;obtain ⟨v,hv⟩:∃ v,v = cmpT y x:=⟨_,rfl⟩;rw [<- hv] at HC HLt;clear hv hx hrow hrow0 hAl HR;by_cases hvn:v < 0
   ·
    have hvd:decide (v < 0) = true:=dT hvn;have HYL:Hid (ltT y x):=Zz (HLt.o.1 hvn);have HJ2:Hid (h = m \/ ∃ x,A[h - a]? = some x/\ltT y x):=Zz (.inr ⟨x,HX.o,HYL.o⟩);clear hvn HLt HX HYL HJ;obtain ⟨⟨sk',sx',se'⟩,⟨pk',px',pe'⟩,⟨ok',ox',oe'⟩⟩:=y;obtain ⟨⟨sk,sx,se⟩,⟨pk,px,pe⟩,⟨ok,ox,oe⟩⟩:=x;have y0:=fun p=>(hcm.bel p).c0
    have y1:=fun p=>(hcm.bel p).c1
    have y2:=fun p=>(hcm.bel p).c2
    have y3:=fun p=>(hcm.bel p).c3
    have y4:=fun p=>(hcm.bel p).c4
    have y5:=fun p=>(hcm.bel p).c5
    have y6:=fun p=>(hcm.bel p).c6
    have y7:=fun p=>(hcm.bel p).c7
    have y8:=fun p=>(hcm.bel p).c8
    have x0:=fun p=>(hch.bel p).c0
    have x1:=fun p=>(hch.bel p).c1
    have x2:=fun p=>(hch.bel p).c2
    have x3:=fun p=>(hch.bel p).c3
    have x4:=fun p=>(hch.bel p).c4
    have x5:=fun p=>(hch.bel p).c5
    have x6:=fun p=>(hch.bel p).c6
    have x7:=fun p=>(hch.bel p).c7
    have x8:=fun p=>(hch.bel p).c8
    dsimp only at y0 y1 y2 y3 y4 y5 y6 y7 y8 x0 x1 x2 x3 x4 x5 x6 x7 x8;unfold Ref5.tripleV at HC;dsimp only at HC;go_upto_region 17 with fail
    refine QT.region_all (by kernel_rfl) (by kernel_rfl) ?_
    iterate 9 (go_big_quiet_step (fail))
    go_big_quiet_step (exact QT.Bel.call _ (HC.o _))
    iterate 2 (go_big_quiet_step (fail))
    refine wpQuiet_nil ?_;intro w2 hw';obtain ⟨⟨_,hb⟩,rfl⟩:=hw';have HS2:=Zz (HBk.o w2 hb);clear hb y0 y1 y2 y3 y4 y5 y6 y7 y8 x0 x1 x2 x3 x4 x5 x6 x7 x8 hch hcm;go_wp2;go_roundw
    case rel=>exact ⟨i,h,rfl,by go_num,hmi,by omega,by omega,Zz ⟨HI.o,HJ2.o,HS2.o⟩⟩
    case measure=>simp [intOf];omega
   ·
    have hvd:decide (v < 0) = false:=dF hvn;have HYL:Hid (¬ ltT y x):=Zz (fun hl=>hvn (HLt.o.2 hl));have HI2:Hid (h + 1 = a \/ ∃ x,A[h + 1 - 1 - a]? = some x/\¬ ltT y x):=Zz (.inr ⟨x,by rw [show h + 1 - 1 - a = h - a by omega];exact HX.o,HYL.o⟩);clear hvn HLt HX HYL HI;obtain ⟨⟨sk',sx',se'⟩,⟨pk',px',pe'⟩,⟨ok',ox',oe'⟩⟩:=y;obtain ⟨⟨sk,sx,se⟩,⟨pk,px,pe⟩,⟨ok,ox,oe⟩⟩:=x;have y0:=fun p=>(hcm.bel p).c0
    have y1:=fun p=>(hcm.bel p).c1
    have y2:=fun p=>(hcm.bel p).c2
    have y3:=fun p=>(hcm.bel p).c3
    have y4:=fun p=>(hcm.bel p).c4
    have y5:=fun p=>(hcm.bel p).c5
    have y6:=fun p=>(hcm.bel p).c6
    have y7:=fun p=>(hcm.bel p).c7
    have y8:=fun p=>(hcm.bel p).c8
    have x0:=fun p=>(hch.bel p).c0
    have x1:=fun p=>(hch.bel p).c1
    have x2:=fun p=>(hch.bel p).c2
    have x3:=fun p=>(hch.bel p).c3
    have x4:=fun p=>(hch.bel p).c4
    have x5:=fun p=>(hch.bel p).c5
    have x6:=fun p=>(hch.bel p).c6
    have x7:=fun p=>(hch.bel p).c7
    have x8:=fun p=>(hch.bel p).c8
    dsimp only at y0 y1 y2 y3 y4 y5 y6 y7 y8 x0 x1 x2 x3 x4 x5 x6 x7 x8;unfold Ref5.tripleV at HC;dsimp only at HC;go_upto_region 17 with fail
    refine QT.region_all (by kernel_rfl) (by kernel_rfl) ?_
    iterate 9 (go_big_quiet_step (fail))
    go_big_quiet_step (exact QT.Bel.call _ (HC.o _))
    iterate 2 (go_big_quiet_step (fail))
    refine wpQuiet_nil ?_;intro w2 hw';obtain ⟨⟨_,hb⟩,rfl⟩:=hw';have HS2:=Zz (HBk.o w2 hb);clear hb y0 y1 y2 y3 y4 y5 y6 y7 y8 x0 x1 x2 x3 x4 x5 x6 x7 x8 hch hcm;go_wp2;go_roundw
    case rel=>exact ⟨h + 1,j,by go_num,rfl,by omega,by omega,hjb,Zz ⟨HI2.o,HJ.o,HS2.o⟩⟩
    case measure=>simp [intOf];omega
  ·
   have hd:decide (i < j) = false:=dF hlt;obtain rfl:i = j:=by omega
   obtain ⟨n,hn⟩:∃ n,n = i - a:=⟨_,rfl⟩;have HSorted:Hid (Sorted' (A.take n ++ y :: A.drop n)/\(A.take n ++ y :: A.drop n).Perm (A ++ [y])/\n <= A.length):=Zz (by
    obtain ⟨h1,h2,_⟩:=HR.o;have h3:=HA.o.1;have h4:=HA.o.2.1;refine ⟨one_in HAs.o ?_ ?_,(one_perm A y n).trans List.perm_append_comm,by omega⟩
    ·
     rcases h1 with h1 | ⟨x,hx,hl⟩
     ·
      left;omega
     ·
      right;exact ⟨x,by rw [<- hx];congr 1;omega,hl⟩
    ·
     rcases h2 with h2 | ⟨x,hx,hl⟩
     ·
      left;omega
     ·
      right;exact ⟨x,by rw [<- hx];congr 1,ltT_asymm hl⟩)
   have HR0:Hid (SR W g (P ++ (A.take A.length ++ (y :: (A.drop A.length ++ Q)))) wr):=Zz (by
    rw [List.take_length,List.drop_length];exact HR.o.2.2)
   have hni:n + a = i:=by omega
   obtain ⟨nA,hnA⟩:∃ nA,nA = A.length:=⟨_,rfl⟩;have hmA:m = a + nA:=by have h3:=HA.o.1;have h4:=HA.o.2.1;omega
   have HMA:=Zz hmA;have HNA:=Zz hnA;have hmn:n <= nA:=by rw [hnA];exact HSorted.o.2.2
   have hma:a <= m:=ham;rw [<- hnA] at HR0;clear HR hn hnA hmA;go_wp2;go_loopw [17] (fun vk wr=>∃ k c:Nat,vk = .int .i64 k/\k <= m/\Hid (k = a + c)/\n <= c/\c <= nA/\Hid (SR W g (P ++ (A.take c ++ (y :: (A.drop c ++ Q)))) wr)) (fun vk _=>(intOf vk).toNat - a)
   case atStart=>exact ⟨m,nA,rfl,by omega,HMA,by omega,by omega,HR0⟩
   case round =>
    obtain ⟨k,c,rfl,hkm,HKC,hcn,hcA,HR⟩:=hrel;clear HR0;by_cases hck:n < c
    ·
     have hik:i < k:=by have:=HKC.o;omega
     have hd2:decide (i < k) = true:=dT hik;obtain ⟨k1,hk1⟩:∃ k1,k1 + 1 = k:=⟨k - 1,by omega⟩;obtain ⟨c1,hc1⟩:∃ c1,c1 + 1 = c:=⟨c - 1,by omega⟩;have wk:IntKind.i64.wrap ((k:Int) - 1) = (k1:Int):=by rw [Zw];omega
     have hkL:(k:Int) < (L:Int):=by omega
     have hk1L:(k1:Int) < (L:Int):=by omega
     have hcB:c1 < A.length:=by have:=HNA.o;omega
     obtain ⟨x,hx⟩:∃ x,x = A[c1]:=⟨_,rfl⟩;have hdrop:A.drop c1 = x :: A.drop c:=by rw [hx,<- hc1];exact List.drop_eq_getElem_cons hcB
     have htake:A.take c = A.take c1 ++ [x]:=by rw [hx,<- hc1,Zt hcB]
     have hlenT:(P ++ A.take c1).length = k1:=by rw [Zl,Zi];have:=HA.o.1;have:=HKC.o;omega
     have HS9:SR W g ((P ++ A.take c1) ++ (x :: y :: (A.drop c ++ Q))) wr:=by
      have:=HR.o;rw [htake] at this;simpa [Za] using this
     have gx:((P ++ A.take c1) ++ (x :: y :: (A.drop c ++ Q)))[k1]? = some x:=by rw [List.getElem?_append_right (by omega),hlenT];simp
     have gy:((P ++ A.take c1) ++ (x :: y :: (A.drop c ++ Q)))[k]? = some y:=by rw [List.getElem?_append_right (by omega),hlenT,show k - k1 = 1 by omega];simp
     obtain ⟨lx,ex⟩:=List.getElem?_eq_some_iff.1 gx;obtain ⟨ly,ey⟩:=List.getElem?_eq_some_iff.1 gy;have HSwF:Hid (SR W g (P ++ (A.take c1 ++ (y :: (A.drop c1 ++ Q)))) (put9 (put9 wr g (k * 9) x) g (k1 * 9) y).drew):=Zz (by
      have hSw:=HS9.swap k k1 ly lx;rw [ex,ey,show k = (P ++ A.take c1).length + 1 by omega,<- hlenT,swap_adj] at hSw;rw [hlenT,hk1] at hSw;have h2:=hSw.drew;rw [hdrop];simpa [Za] using h2)
     have hcx:=HS9.at gx;have hcy:=HS9.at gy;have fx:=HS9.free9 k1 lx;have fy:=HS9.free9 k ly;have h9:k1 * 9 + 9 <= k * 9:=by omega
     have HK1:=Zz hk1;have HC1:=Zz hc1;have HKC2:Hid (k1 = a + c1):=Zz (by have:=HKC.o;omega);have hb1:k1 < k:=by omega
     have hb2:n <= c1:=by omega
     have hb3:c1 <= nA:=by omega
     have hb4:a < k:=by omega
     clear gx gy lx ly ex ey HS9 hlenT htake hdrop hx hcB hc1;obtain ⟨⟨sk',sx',se'⟩,⟨pk',px',pe'⟩,⟨ok',ox',oe'⟩⟩:=y;obtain ⟨⟨sk,sx,se⟩,⟨pk,px,pe⟩,⟨ok,ox,oe⟩⟩:=x;unfold put9 at HSwF;dsimp only at HSwF;obtain ⟨x0,x1,x2,x3,x4,x5,x6,x7,x8⟩:=hcx;obtain ⟨y0,y1,y2,y3,y4,y5,y6,y7,y8⟩:=hcy;obtain ⟨f0,f1,f2,f3,f4,f5,f6,f7,f8⟩:=fx;obtain ⟨e0,e1,e2,e3,e4,e5,e6,e7,e8⟩:=fy;dsimp only at x0 x1 x2 x3 x4 x5 x6 x7 x8 y0 y1 y2 y3 y4 y5 y6 y7 y8;have D1:∀ e d,d < 9 -> (k * 9 + e = k1 * 9 + d) = False:=fun e d hd=>eq_false (by omega)
     have D2:∀ d,d < 9 -> (k * 9 = k1 * 9 + d) = False:=fun d hd=>eq_false (by omega)
     have D3:∀ e,(k * 9 + e = k1 * 9) = False:=fun e=>eq_false (by omega)
     have D4:(k * 9 = k1 * 9) = False:=eq_false (by omega);have D5:∀ e d,d < 9 -> (k1 * 9 + d = k * 9 + e) = False:=fun e d hd=>eq_false (by omega)
     have D6:∀ d,d < 9 -> (k1 * 9 + d = k * 9) = False:=fun d hd=>eq_false (by omega)
     have D7:∀ e,(k1 * 9 = k * 9 + e) = False:=fun e=>eq_false (by omega)
     have D8:(k1 * 9 = k * 9) = False:=eq_false (by omega);clear h9 hk1;go_upto_region 23 with fail
     go_big_region
     all_goals go_wp2
     go_roundw
     case rel=>exact ⟨k1,c1,by go_num,by omega,HKC2,hb2,hb3,HSwF⟩
     case measure=>simp [intOf];omega
    ·
     have hki:k = i:=by have:=HKC.o;omega
     have hd2:decide (i < k) = false:=dF (by omega);have hcn2:c = n:=by omega
     have HR9:Hid (SR W g (P ++ ((A.take n ++ y :: A.drop n) ++ Q)) wr):=Zz (by rw [<- hcn2,Za];exact HR.o);clear hki hcn2;go_wp2
     ((try simp only [Exit.inBlock,Exit.then]);refine bodyPost_ret (results_none rfl _ _ _) rfl ?_)
     exact ⟨rfl,_,HSorted.o.2.1,HSorted.o.1,HR9.o⟩
end SortW
namespace SortW
open Go.RowKit Go.Lib B Rd Utf TermPure LinesPure Tx Env Tri SortP Print Cmp Long
def SymC (L cap g:Nat) (W:World) (N:Nat):Prop:=∀ (P A B Q:List Triple) (a m b:Nat) (w:World),A.length + B.length <= N -> 0 < A.length -> 0 < B.length -> (P ++ (A ++ (B ++ Q))).length = L ->
  a = P.length -> m = a + A.length -> b = m + B.length -> Sorted' A -> Sorted' B -> (∀ t ∈ A ++ B,SmallT t) -> SR W g (P ++ (A ++ (B ++ Q))) w -> Calls Tryz.prog 195 #[.slice (some ⟨g,0,none⟩) L cap,.int .i64 a,.int .i64 m,.int .i64 b,cmpV] w fun e w'=>e = .returned (.tuple #[])/\∃ R,R.Perm (A ++ B)/\Sorted' R/\SR W g (P ++ (R ++ Q)) w'
theorem sym_gen1 (L cap:Nat) (hLs:L <= 140737488355328) (g:Nat) (W:World) (N:Nat) (hIH:SymC L cap g W N) (P A B Q:List Triple) (a m b:Nat) (w:World) (hN:A.length + B.length <= N + 1) (hA0:0 < A.length) (hB0:0 < B.length) (hL:(P ++ (A ++ (B ++ Q))).length = L) (ha:a = P.length) (hm:m = a + A.length) (hb:b = m + B.length) (hA:Sorted' A) (hB:Sorted' B) (hsm:∀ t ∈ A ++ B,SmallT t) (hS:SR W g (P ++ (A ++ (B ++ Q))) w) (c1:¬ A.length = 1) (c2:¬ B.length = 1) (hcase:(a + b) / 2 < m) :
  Calls Tryz.prog 195 #[.slice (some ⟨g,0,none⟩) L cap,.int .i64 a,.int .i64 m,.int .i64 b,cmpV] w fun e w'=>e = .returned (.tuple #[])/\∃ R,R.Perm (A ++ B)/\Sorted' R/\SR W g (P ++ (R ++ Q)) w':=by
 have hlen:=hL;simp only [Zl] at hlen;have IH:=Zz hIH;obtain ⟨d0,hd0⟩:∃ d0,d0 = m - a:=⟨_,rfl⟩;have w0:IntKind.i64.wrap ((m:Int) - (a:Int)) = (d0:Int):=by rw [Zw];omega
 have w00:((d0:Int) == 1) = false:=by rw [Zb];omega
 obtain ⟨d1,hd1⟩:∃ d1,d1 = b - m:=⟨_,rfl⟩;have w1:IntKind.i64.wrap ((b:Int) - (m:Int)) = (d1:Int):=by rw [Zw];omega
 have w11:((d1:Int) == 1) = false:=by rw [Zb];omega
 obtain ⟨mid,hmid⟩:∃ mid,mid = (a + b) / 2:=⟨_,rfl⟩;have hq:((a:Int) + (b:Int)) / 2 = (mid:Int):=by omega
 obtain ⟨n,hn⟩:∃ n,n = mid + m:=⟨_,rfl⟩;have wn:IntKind.i64.wrap ((mid:Int) + (m:Int)) = (n:Int):=by rw [Zw];omega
 obtain ⟨p,hp⟩:∃ p,p + 1 = n:=⟨n - 1,by omega⟩;have wp:IntKind.i64.wrap ((n:Int) - 1) = (p:Int):=by rw [Zw];omega
 rw [<- hmid] at hcase;obtain ⟨s0,hs0⟩:∃ s0,s0 + b = n:=⟨n - b,by omega⟩;have HSR:Hid ((mid < m/\s0 + b = n/\mid = mid) \/ (m <= mid/\s0 = a/\mid = m)):=Zz (.inl ⟨hcase,hs0,rfl⟩);have hdm:decide (mid < m) = true:=dT hcase;have ws:IntKind.i64.wrap ((n:Int) - (b:Int)) = (s0:Int):=by rw [Zw];omega
 have hbds:a <= s0/\s0 <= mid/\mid <= m/\s0 <= n:=by omega
 have hin:∀ c,s0 <= c -> c < mid -> m <= p - c/\p - c < b/\a <= c/\c < m/\c <= p:=fun c h1 h2=>by omega
 clear hs0;obtain ⟨hb1,hb2,hb3,hb4⟩:=hbds;have hbL:b <= L:=by omega
 have ham:a < m:=by omega
 have hmb:m < b:=by omega
 have hamid:a < mid:=by omega
 have hmidb:mid < b:=by omega
 have HIn:=Zz hin;have HA:=Zz (show a = P.length/\m = P.length + A.length/\b = m + B.length/\mid = (a + b) / 2/\n = mid + m/\p + 1 = n/\A.length + B.length <= N + 1 from ⟨ha,by omega,hb,hmid,hn,hp,hN⟩);have HAs:=Zz hA;have HBs:=Zz hB;have HSm:=Zz hsm;have HS0:=Zz hS;have HL:=Zz hL;clear hin hS hL hlen ha hb hA hB hsm hm hd0 hd1 hmid hn hp c1 c2 hA0 hB0 hN hIH;unfold cmpV at *;go_enter func195,ntmps195;go_wp2;go_loopw [20,21] (fun vi vj wr=>∃ i j:Nat,vi = .int .i64 i/\vj = .int .i64 j/\s0 <= i/\i <= j/\j <= mid/\Hid ((i = s0 \/ ∃ u v,A[i - 1 - a]? = some u/\B[n - i - m]? = some v/\¬ ltT v u)/\(j = mid \/ ∃ u v,A[j - a]? = some u/\B[p - j - m]? = some v/\ltT v u)/\SR W g (P ++ (A ++ (B ++ Q))) wr)) (fun vi vj _=>(intOf vj).toNat - (intOf vi).toNat)
 case atStart=>exact ⟨s0,mid,rfl,rfl,by omega,by omega,by omega,Zz ⟨.inl rfl,.inl rfl,HS0.o⟩⟩
 case round =>
 obtain ⟨i,j,rfl,rfl,hmi,hij,hjb,HR⟩:=hrel;clear HS0 w0 w00 w1 w11 hq wn ws;by_cases hlt:i < j
 ·
  have hd:decide (i < j) = true:=dT hlt;obtain ⟨h,hh⟩:∃ h,h = (i + j) / 2:=⟨_,rfl⟩;have hq:((i:Int) + (j:Int)) / 2 = (h:Int):=by omega
  have hih:i <= h:=by omega
  have hhj:h < j:=by omega
  clear hh;obtain ⟨i1,i2,i3,i4,i5⟩:=HIn.o h (by omega) (by omega);obtain ⟨pc,hpc⟩:∃ pc,pc = p - h:=⟨_,rfl⟩;have wpc:IntKind.i64.wrap ((p:Int) - (h:Int)) = (pc:Int):=by rw [Zw];omega
  have hhb:(h:Int) < (L:Int):=by omega
  have hab:(pc:Int) < (L:Int):=by omega
  have hAl:h - a < A.length:=by have h1:=HA.o.1;have h2:=HA.o.2.1;omega
  have hBl:pc - m < B.length:=by have h1:=HA.o.2.2.1;omega
  obtain ⟨x,hu⟩:∃ x,A[h - a]? = some x:=⟨_,Zg hAl⟩;obtain ⟨y,hv⟩:∃ y,B[pc - m]? = some y:=⟨_,Zg hBl⟩;have hrow:(P ++ (A ++ (B ++ Q)))[h]? = some x:=by
   rw [<- hu,<- at_A (P:=P) (A:=A) (B:=B) (Q:=Q) hAl];congr 1;have:=HA.o.1;omega
  have hrow0:(P ++ (A ++ (B ++ Q)))[pc]? = some y:=by
   rw [<- hv,<- at_B (P:=P) (A:=A) (B:=B) (Q:=Q) hBl];congr 1;have:=HA.o.2.1;omega
  have hcu:=HR.o.2.2.at hrow;have hcv:=HR.o.2.2.at hrow0;have hgl:=hcu.lt;have HBk:Hid (∀ w2,Below wr.heap.size wr w2 -> SR W g (P ++ (A ++ (B ++ Q))) w2):=Zz (fun w2 hb=>HR.o.2.2.below hgl hb);have HC:=Zz (fun w=>cmp_calls y x (HSm.o y (List.mem_append_right _ (List.mem_of_getElem? hv))) (HSm.o x (List.mem_append_left _ (List.mem_of_getElem? hu))) w);have HLt:Hid (cmpT y x < 0 ↔ ltT y x):=Zz Iff.rfl;have HU:Hid (A[h - a]? = some x/\B[p - h - m]? = some y/\B[n - (h + 1) - m]? = some y):=Zz ⟨hu,by rw [<- hpc];exact hv,by rw [<- hv];congr 1;have:=HA.o.2.2.2.2.2.1;omega⟩;have HI:=Zz HR.o.1;have HJ:=Zz HR.o.2.1;obtain ⟨r,hr⟩:∃ r,r = cmpT y x:=⟨_,rfl⟩;rw [<- hr] at HC HLt;clear hr hu hv hrow hrow0 hAl hBl HR hpc;by_cases hvn:r < 0
  ·
   have hvd:decide (r < 0) = true:=dT hvn;have HYL:Hid (ltT y x):=Zz (HLt.o.1 hvn);have HJ2:Hid (h = mid \/ ∃ u v,A[h - a]? = some u/\B[p - h - m]? = some v/\ltT v u):=Zz (.inr ⟨x,y,HU.o.1,HU.o.2.1,HYL.o⟩);clear hvn HLt HU HYL HJ;obtain ⟨⟨sk',sx',se'⟩,⟨pk',px',pe'⟩,⟨ok',ox',oe'⟩⟩:=y;obtain ⟨⟨sk,sx,se⟩,⟨pk,px,pe⟩,⟨ok,ox,oe⟩⟩:=x;have y0:=fun p=>(hcv.bel p).c0
   have y1:=fun p=>(hcv.bel p).c1
   have y2:=fun p=>(hcv.bel p).c2
   have y3:=fun p=>(hcv.bel p).c3
   have y4:=fun p=>(hcv.bel p).c4
   have y5:=fun p=>(hcv.bel p).c5
   have y6:=fun p=>(hcv.bel p).c6
   have y7:=fun p=>(hcv.bel p).c7
   have y8:=fun p=>(hcv.bel p).c8
   have x0:=fun p=>(hcu.bel p).c0
   have x1:=fun p=>(hcu.bel p).c1
   have x2:=fun p=>(hcu.bel p).c2
   have x3:=fun p=>(hcu.bel p).c3
   have x4:=fun p=>(hcu.bel p).c4
   have x5:=fun p=>(hcu.bel p).c5
   have x6:=fun p=>(hcu.bel p).c6
   have x7:=fun p=>(hcu.bel p).c7
   have x8:=fun p=>(hcu.bel p).c8
   dsimp only at y0 y1 y2 y3 y4 y5 y6 y7 y8 x0 x1 x2 x3 x4 x5 x6 x7 x8;unfold Ref5.tripleV at HC;dsimp only at HC;go_upto_region 35 with fail
   refine QT.region_all (by kernel_rfl) (by kernel_rfl) ?_
   iterate 11 (go_big_quiet_step (fail))
   go_big_quiet_step (exact QT.Bel.call _ (HC.o _))
   iterate 2 (go_big_quiet_step (fail))
   refine wpQuiet_nil ?_;intro w2 hw';obtain ⟨⟨_,hb⟩,rfl⟩:=hw';have HS2:=Zz (HBk.o w2 hb);clear hb y0 y1 y2 y3 y4 y5 y6 y7 y8 x0 x1 x2 x3 x4 x5 x6 x7 x8 hcu hcv;go_wp2;go_roundw
   case rel=>exact ⟨i,h,rfl,by go_num,hmi,by omega,by omega,Zz ⟨HI.o,HJ2.o,HS2.o⟩⟩
   case measure=>simp [intOf];omega
  ·
   have hvd:decide (r < 0) = false:=dF hvn;have HYL:Hid (¬ ltT y x):=Zz (fun hl=>hvn (HLt.o.2 hl));have HI2:Hid (h + 1 = s0 \/ ∃ u v,A[h + 1 - 1 - a]? = some u/\B[n - (h + 1) - m]? = some v/\¬ ltT v u):=Zz (.inr ⟨x,y,by rw [show h + 1 - 1 - a = h - a by omega];exact HU.o.1,HU.o.2.2,HYL.o⟩);clear hvn HLt HU HYL HI;obtain ⟨⟨sk',sx',se'⟩,⟨pk',px',pe'⟩,⟨ok',ox',oe'⟩⟩:=y;obtain ⟨⟨sk,sx,se⟩,⟨pk,px,pe⟩,⟨ok,ox,oe⟩⟩:=x;have y0:=fun p=>(hcv.bel p).c0
   have y1:=fun p=>(hcv.bel p).c1
   have y2:=fun p=>(hcv.bel p).c2
   have y3:=fun p=>(hcv.bel p).c3
   have y4:=fun p=>(hcv.bel p).c4
   have y5:=fun p=>(hcv.bel p).c5
   have y6:=fun p=>(hcv.bel p).c6
   have y7:=fun p=>(hcv.bel p).c7
   have y8:=fun p=>(hcv.bel p).c8
   have x0:=fun p=>(hcu.bel p).c0
   have x1:=fun p=>(hcu.bel p).c1
   have x2:=fun p=>(hcu.bel p).c2
   have x3:=fun p=>(hcu.bel p).c3
   have x4:=fun p=>(hcu.bel p).c4
   have x5:=fun p=>(hcu.bel p).c5
   have x6:=fun p=>(hcu.bel p).c6
   have x7:=fun p=>(hcu.bel p).c7
   have x8:=fun p=>(hcu.bel p).c8
   dsimp only at y0 y1 y2 y3 y4 y5 y6 y7 y8 x0 x1 x2 x3 x4 x5 x6 x7 x8;unfold Ref5.tripleV at HC;dsimp only at HC;go_upto_region 35 with fail
   refine QT.region_all (by kernel_rfl) (by kernel_rfl) ?_
   iterate 11 (go_big_quiet_step (fail))
   go_big_quiet_step (exact QT.Bel.call _ (HC.o _))
   iterate 2 (go_big_quiet_step (fail))
   refine wpQuiet_nil ?_;intro w2 hw';obtain ⟨⟨_,hb⟩,rfl⟩:=hw';have HS2:=Zz (HBk.o w2 hb);clear hb y0 y1 y2 y3 y4 y5 y6 y7 y8 x0 x1 x2 x3 x4 x5 x6 x7 x8 hcu hcv;go_wp2;go_roundw
   case rel=>exact ⟨h + 1,j,by go_num,rfl,by omega,by omega,hjb,Zz ⟨HI2.o,HJ.o,HS2.o⟩⟩
   case measure=>simp [intOf];omega
 ·
  have hd:decide (i < j) = false:=dF hlt;obtain rfl:i = j:=by omega
  obtain ⟨en,hen⟩:∃ en,en = n - i:=⟨_,rfl⟩;have wen:IntKind.i64.wrap ((n:Int) - (i:Int)) = (en:Int):=by rw [Zw];have:=HA.o.2.2.2.2.1;omega
  have hbnd:a <= i/\i <= m/\m <= en/\en <= b/\mid + m = i + en/\i <= mid/\mid <= en:=by
   have h1:=HA.o.2.2.2.2.1;have h2:=HA.o.2.2.2.1;rcases HSR.o with ⟨h3,h4,h5⟩ | ⟨h3,h4,h5⟩ <;> omega
  obtain ⟨n1,n2,n3,n4,n5,n6,n7⟩:=hbnd;obtain ⟨A1,hA1⟩:∃ A1,A1 = A.take (i - a):=⟨_,rfl⟩;obtain ⟨A2,hA2⟩:∃ A2,A2 = A.drop (i - a):=⟨_,rfl⟩;obtain ⟨B1,hB1⟩:∃ B1,B1 = B.take (en - m):=⟨_,rfl⟩;obtain ⟨B2,hB2⟩:∃ B2,B2 = B.drop (en - m):=⟨_,rfl⟩;have HLn:Hid (A1.length = i - a/\A2.length = m - i/\B1.length = en - m/\B2.length = b - en):=Zz (by
   have h1:=HA.o.1;have h2:=HA.o.2.1;have h3:=HA.o.2.2.1
   rw [hA1,hA2,hB1,hB2,Zi,Zj,Zi,Zj];omega)
  have HAB:Hid (A = A1 ++ A2/\B = B1 ++ B2):=Zz ⟨by rw [hA1,hA2,List.take_append_drop],by rw [hB1,hB2,List.take_append_drop]⟩;have HHalf:Hid (∀ R1 R2,R1.Perm (A1 ++ B1) -> R2.Perm (A2 ++ B2) -> Sorted' R1 -> Sorted' R2 -> (R1 ++ R2).Perm (A ++ B)/\Sorted' (R1 ++ R2)):=Zz (by
   intro R1 R2 p1 p2 s1 s2;have h1:=HA.o.1;have h2:=HA.o.2.1;have h3:=HA.o.2.2.1;have h4:=HA.o.2.2.2.2.1;have h5:=HA.o.2.2.2.2.2.1
   refine halves (s:=i - a) (e:=en - m) HAs.o HBs.o ?_ ?_ (by rw [<- hA1,<- hB1];exact p1) (by rw [<- hA2,<- hB2];exact p2) s1 s2
   ·
    rcases HR.o.1 with h | ⟨u,v,hu,hv,hl⟩
    ·
     rcases HSR.o with ⟨h6,h7,h8⟩ | ⟨h6,h7,h8⟩
     ·
      right;left;omega
     ·
      left;omega
    ·
     right;right;exact ⟨u,v,by rw [<- hu];congr 1;omega,by rw [<- hv];congr 1;omega,hl⟩
   ·
    rcases HR.o.2.1 with h | ⟨u,v,hu,hv,hl⟩
    ·
     rcases HSR.o with ⟨h6,h7,h8⟩ | ⟨h6,h7,h8⟩
     ·
      right;left;omega
     ·
      left;omega
    ·
     right;right;exact ⟨v,u,by rw [<- hv];congr 1;omega,hu,ltT_asymm hl⟩)
  have HSm2:Hid ((∀ t ∈ A1 ++ B1,SmallT t)/\(∀ t ∈ A2 ++ B2,SmallT t)):=Zz (by
   have h:=HSm.o;rw [HAB.o.1,HAB.o.2] at h;refine ⟨fun t ht=>h t ?_,fun t ht=>h t ?_⟩
   ·
    rcases Zk.1 ht with ht | ht <;> simp [ht]
   ·
    rcases Zk.1 ht with ht | ht <;> simp [ht])
  have HSt:Hid (Sorted' A1/\Sorted' A2/\Sorted' B1/\Sorted' B2):=Zz (by
   have hA:=HAs.o;have hB:=HBs.o;rw [HAB.o.1] at hA;rw [HAB.o.2] at hB;exact ⟨(List.pairwise_append.1 hA).1,(List.pairwise_append.1 hA).2.1,(List.pairwise_append.1 hB).1,(List.pairwise_append.1 hB).2.1⟩)
  have HRow:Hid (SR W g (P ++ (A1 ++ (A2 ++ (B1 ++ (B2 ++ Q))))) wr/\P.length + (A1.length + (A2.length + (B1.length + (B2.length + Q.length)))) = L):=Zz (by
   have h:=HR.o.2.2;have hl:=HL.o;rw [HAB.o.1,HAB.o.2] at h hl;refine ⟨by simpa [Za] using h,?_⟩;simp only [Zl] at hl;omega)
  clear HR HAs HBs HSm HL hA1 hA2 hB1 hB2 hen;have HTot:=Zz HRow.o.2;have HRa:=Zz (fun wx (h:SR W g (P ++ (A1 ++ (B1 ++ (A2 ++ (B2 ++ Q))))) wx) (k1:a < i) (k2:i < mid)=>IH.o P A1 B1 (A2 ++ (B2 ++ Q)) a i mid wx (by have h1:=HLn.o.1;have h2:=HLn.o.2.2.1;have h3:=HA.o;omega) (by have:=HLn.o.1;omega) (by have:=HLn.o.2.2.1;omega) (by have:=HTot.o;simp only [Zl];omega) HA.o.1 (by have:=HLn.o.1;omega) (by have h2:=HLn.o.2.2.1;omega) HSt.o.1 HSt.o.2.2.1 HSm2.o.1 h);have HRb:Hid (∀ (R1:List Triple) wx,(R1.Perm (A1 ++ B1)/\Sorted' R1/\SR W g (P ++ (R1 ++ (A2 ++ (B2 ++ Q)))) wx) -> mid < en -> en < b -> Calls Tryz.prog 195 #[.slice (some ⟨g,0,none⟩) L cap,.int .i64 mid,.int .i64 en,.int .i64 b,cmpV] wx fun e wx=>e = .returned (.tuple #[])/\∃ R,R.Perm (A ++ B)/\Sorted' R/\SR W g (P ++ (R ++ Q)) wx):=Zz (fun R1 wx h k1 k2=>by
   have HR1:=Zz h;have HL1:Hid (R1.length = mid - a):=Zz (by rw [HR1.o.1.length_eq,Zl,HLn.o.1,HLn.o.2.2.1];omega);refine (IH.o (P ++ R1) A2 B2 Q mid en b wx (by have h1:=HLn.o.2.1;have h2:=HLn.o.2.2.2;have h3:=HA.o;omega) (by have:=HLn.o.2.1;omega) (by have:=HLn.o.2.2.2;omega) (by have h0:=HTot.o;have h1:=HL1.o;have h2:=HLn.o;simp only [Zl];omega) (by have h1:=HL1.o;have h2:=HA.o.1;rw [Zl];omega) (by have:=HLn.o.2.1;omega) (by have h2:=HLn.o.2.2.2;omega) HSt.o.2.1 HSt.o.2.2.2 HSm2.o.2 (by rw [Za];exact HR1.o.2.2)).mono ?_;rintro e w9 ⟨rfl,R2,hp2,hs2,hS2⟩;exact ⟨rfl,⟨R1 ++ R2,(HHalf.o R1 R2 HR1.o.1 hp2 HR1.o.2.1 hs2).1,(HHalf.o R1 R2 HR1.o.1 hp2 HR1.o.2.1 hs2).2,by simpa [Za] using hS2⟩⟩)
  have HZb:Hid (∀ (R1:List Triple) wx,(R1.Perm (A1 ++ B1)/\Sorted' R1/\SR W g (P ++ (R1 ++ (A2 ++ (B2 ++ Q)))) wx) -> ¬ en < b -> ∃ R,R.Perm (A ++ B)/\Sorted' R/\SR W g (P ++ (R ++ Q)) wx):=Zz (fun R1 wx hr k=>by
   have h0:B2 = []:=Zn (by have:=HLn.o.2.2.2;omega);have h:=HHalf.o R1 A2 hr.1 (by rw [h0,Ze]) hr.2.1 HSt.o.2.1;have h2:=hr.2.2;rw [h0] at h2;exact ⟨_,h.1,h.2,by simpa [Za] using h2⟩)
  have HZa:Hid (∀ (R1:List Triple) wx,(R1.Perm (A1 ++ B1)/\Sorted' R1/\SR W g (P ++ (R1 ++ (A2 ++ (B2 ++ Q)))) wx) -> ¬ mid < en -> ∃ R,R.Perm (A ++ B)/\Sorted' R/\SR W g (P ++ (R ++ Q)) wx):=Zz (fun R1 wx hr k=>by
   have h0:A2 = []:=Zn (by have:=HLn.o.2.1;omega);have h:=HHalf.o R1 B2 hr.1 (by rw [h0,Zf]) hr.2.1 HSt.o.2.2.2;have h2:=hr.2.2;rw [h0] at h2;exact ⟨_,h.1,h.2,by simpa [Za] using h2⟩)
  unfold cmpV at HRb;by_cases e1:i < m
  ·
   have x1:decide (i < m) = true:=dT e1;by_cases e2:m < en
   ·
    have x2:decide (m < en) = true:=dT e2;have HC:=Zz (rotate_calls (.func (.func 119) #[] #[]) (P ++ A1) A2 B1 (B2 ++ Q) (by have:=HLn.o.2.1;omega) (by have:=HLn.o.2.2.1;omega) L (by have:=HRow.o.2;simp only [Zl];omega) hLs i m en cap (by have h1:=HLn.o.1;have h2:=HA.o.1;rw [Zl];omega) (by have:=HLn.o.2.1;omega) (by have:=HLn.o.2.2.1;omega) g W wr (by have:=HRow.o.1;rw [Za];exact this));go_wp2_with fail;refine HC.o.mono ?_;rintro e w7 ⟨rfl,hS2⟩;have HRow2:Hid (SR W g (P ++ (A1 ++ (B1 ++ (A2 ++ (B2 ++ Q))))) w7):=Zz (by rw [<- Za];exact hS2);clear hS2 HRow HC;by_cases e3:a < i
    ·
     have x3:decide (a < i) = true:=dT e3;by_cases e4:i < mid
     ·
      have x4:decide (i < mid) = true:=dT e4;have HC:=Zz (HRa.o w7 HRow2.o e3 e4);go_wp2_with fail;refine HC.o.mono ?_;rintro e w8 ⟨rfl,R1,hp1,hs1,hS2⟩;have HR1:=Zz (show R1.Perm (A1 ++ B1)/\Sorted' R1/\SR W g (P ++ (R1 ++ (A2 ++ (B2 ++ Q)))) w8 from ⟨hp1,hs1,hS2⟩);clear hp1 hs1 hS2 HRow2 HC;by_cases e5:mid < en
      ·
       have x5:decide (mid < en) = true:=dT e5;by_cases e6:en < b
       ·
        have x6:decide (en < b) = true:=dT e6;have HC:=Zz (HRb.o R1 w8 HR1.o e5 e6);go_wp2_with fail;refine HC.o.mono ?_;rintro e w9 ⟨rfl,hE⟩;have HEnd:=Zz hE;clear hE;go_wp2;go_end0;exact ⟨rfl,HEnd.o⟩
       ·
        have x6:decide (en < b) = false:=dF e6;have HEnd:=Zz (HZb.o R1 w8 HR1.o e6);go_wp2;go_end0;exact ⟨rfl,HEnd.o⟩
      ·
       have x5:decide (mid < en) = false:=dF e5;have HEnd:=Zz (HZa.o R1 w8 HR1.o e5);go_wp2;go_end0;exact ⟨rfl,HEnd.o⟩
     ·
      have x4:decide (i < mid) = false:=dF e4;have HR1:Hid (A1.Perm (A1 ++ B1)/\Sorted' A1/\SR W g (P ++ (A1 ++ (A2 ++ (B2 ++ Q)))) w7):=Zz (by
       have:B1 = []:=Zn (by have:=HLn.o.2.2.1;omega);have h:=HRow2.o;rw [this] at h |-;exact ⟨by rw [Ze],HSt.o.1,h⟩)
      clear HRow2;obtain ⟨R1,hR1⟩:∃ R1,R1 = A1:=⟨_,rfl⟩;have HR1:Hid (R1.Perm (A1 ++ B1)/\Sorted' R1/\SR W g (P ++ (R1 ++ (A2 ++ (B2 ++ Q)))) w7):=Zz (by rw [hR1];exact HR1.o);clear hR1;by_cases e5:mid < en
      ·
       have x5:decide (mid < en) = true:=dT e5;by_cases e6:en < b
       ·
        have x6:decide (en < b) = true:=dT e6;have HC:=Zz (HRb.o R1 w7 HR1.o e5 e6);go_wp2_with fail;refine HC.o.mono ?_;rintro e w9 ⟨rfl,hE⟩;have HEnd:=Zz hE;clear hE;go_wp2;go_end0;exact ⟨rfl,HEnd.o⟩
       ·
        have x6:decide (en < b) = false:=dF e6;have HEnd:=Zz (HZb.o R1 w7 HR1.o e6);go_wp2;go_end0;exact ⟨rfl,HEnd.o⟩
      ·
       have x5:decide (mid < en) = false:=dF e5;have HEnd:=Zz (HZa.o R1 w7 HR1.o e5);go_wp2;go_end0;exact ⟨rfl,HEnd.o⟩
    ·
     have x3:decide (a < i) = false:=dF e3;have HR1:Hid (B1.Perm (A1 ++ B1)/\Sorted' B1/\SR W g (P ++ (B1 ++ (A2 ++ (B2 ++ Q)))) w7):=Zz (by
      have:A1 = []:=Zn (by have:=HLn.o.1;omega);have h:=HRow2.o;rw [this] at h |-;exact ⟨List.Perm.refl _,HSt.o.2.2.1,h⟩)
     clear HRow2;obtain ⟨R1,hR1⟩:∃ R1,R1 = B1:=⟨_,rfl⟩;have HR1:Hid (R1.Perm (A1 ++ B1)/\Sorted' R1/\SR W g (P ++ (R1 ++ (A2 ++ (B2 ++ Q)))) w7):=Zz (by rw [hR1];exact HR1.o);clear hR1;by_cases e5:mid < en
     ·
      have x5:decide (mid < en) = true:=dT e5;by_cases e6:en < b
      ·
       have x6:decide (en < b) = true:=dT e6;have HC:=Zz (HRb.o R1 w7 HR1.o e5 e6);go_wp2_with fail;refine HC.o.mono ?_;rintro e w9 ⟨rfl,hE⟩;have HEnd:=Zz hE;clear hE;go_wp2;go_end0;exact ⟨rfl,HEnd.o⟩
      ·
       have x6:decide (en < b) = false:=dF e6;have HEnd:=Zz (HZb.o R1 w7 HR1.o e6);go_wp2;go_end0;exact ⟨rfl,HEnd.o⟩
     ·
      have x5:decide (mid < en) = false:=dF e5;have HEnd:=Zz (HZa.o R1 w7 HR1.o e5);go_wp2;go_end0;exact ⟨rfl,HEnd.o⟩
   ·
    have x2:decide (m < en) = false:=dF e2;have HRow2:Hid (SR W g (P ++ (A1 ++ (B1 ++ (A2 ++ (B2 ++ Q))))) wr):=Zz (by
     have:B1 = []:=Zn (by have:=HLn.o.2.2.1;omega);have h:=HRow.o.1;rw [this] at h |-;exact h)
    clear HRow;by_cases e3:a < i
    ·
     have x3:decide (a < i) = true:=dT e3;by_cases e4:i < mid
     ·
      have x4:decide (i < mid) = true:=dT e4;have HC:=Zz (HRa.o wr HRow2.o e3 e4);go_wp2_with fail;refine HC.o.mono ?_;rintro e w8 ⟨rfl,R1,hp1,hs1,hS2⟩;have HR1:=Zz (show R1.Perm (A1 ++ B1)/\Sorted' R1/\SR W g (P ++ (R1 ++ (A2 ++ (B2 ++ Q)))) w8 from ⟨hp1,hs1,hS2⟩);clear hp1 hs1 hS2 HRow2 HC;by_cases e5:mid < en
      ·
       have x5:decide (mid < en) = true:=dT e5;by_cases e6:en < b
       ·
        have x6:decide (en < b) = true:=dT e6;have HC:=Zz (HRb.o R1 w8 HR1.o e5 e6);go_wp2_with fail;refine HC.o.mono ?_;rintro e w9 ⟨rfl,hE⟩;have HEnd:=Zz hE;clear hE;go_wp2;go_end0;exact ⟨rfl,HEnd.o⟩
       ·
        have x6:decide (en < b) = false:=dF e6;have HEnd:=Zz (HZb.o R1 w8 HR1.o e6);go_wp2;go_end0;exact ⟨rfl,HEnd.o⟩
      ·
       have x5:decide (mid < en) = false:=dF e5;have HEnd:=Zz (HZa.o R1 w8 HR1.o e5);go_wp2;go_end0;exact ⟨rfl,HEnd.o⟩
     ·
      have x4:decide (i < mid) = false:=dF e4;have HR1:Hid (A1.Perm (A1 ++ B1)/\Sorted' A1/\SR W g (P ++ (A1 ++ (A2 ++ (B2 ++ Q)))) wr):=Zz (by
       have:B1 = []:=Zn (by have:=HLn.o.2.2.1;omega);have h:=HRow2.o;rw [this] at h |-;exact ⟨by rw [Ze],HSt.o.1,h⟩)
      clear HRow2;obtain ⟨R1,hR1⟩:∃ R1,R1 = A1:=⟨_,rfl⟩;have HR1:Hid (R1.Perm (A1 ++ B1)/\Sorted' R1/\SR W g (P ++ (R1 ++ (A2 ++ (B2 ++ Q)))) wr):=Zz (by rw [hR1];exact HR1.o);clear hR1;by_cases e5:mid < en
      ·
       have x5:decide (mid < en) = true:=dT e5;by_cases e6:en < b
       ·
        have x6:decide (en < b) = true:=dT e6;have HC:=Zz (HRb.o R1 wr HR1.o e5 e6);go_wp2_with fail;refine HC.o.mono ?_;rintro e w9 ⟨rfl,hE⟩;have HEnd:=Zz hE;clear hE;go_wp2;go_end0;exact ⟨rfl,HEnd.o⟩
       ·
        have x6:decide (en < b) = false:=dF e6;have HEnd:=Zz (HZb.o R1 wr HR1.o e6);go_wp2;go_end0;exact ⟨rfl,HEnd.o⟩
      ·
       have x5:decide (mid < en) = false:=dF e5;have HEnd:=Zz (HZa.o R1 wr HR1.o e5);go_wp2;go_end0;exact ⟨rfl,HEnd.o⟩
    ·
     have x3:decide (a < i) = false:=dF e3;have HR1:Hid (B1.Perm (A1 ++ B1)/\Sorted' B1/\SR W g (P ++ (B1 ++ (A2 ++ (B2 ++ Q)))) wr):=Zz (by
      have:A1 = []:=Zn (by have:=HLn.o.1;omega);have h:=HRow2.o;rw [this] at h |-;exact ⟨List.Perm.refl _,HSt.o.2.2.1,h⟩)
     clear HRow2;obtain ⟨R1,hR1⟩:∃ R1,R1 = B1:=⟨_,rfl⟩;have HR1:Hid (R1.Perm (A1 ++ B1)/\Sorted' R1/\SR W g (P ++ (R1 ++ (A2 ++ (B2 ++ Q)))) wr):=Zz (by rw [hR1];exact HR1.o);clear hR1;by_cases e5:mid < en
     ·
      have x5:decide (mid < en) = true:=dT e5;by_cases e6:en < b
      ·
       have x6:decide (en < b) = true:=dT e6;have HC:=Zz (HRb.o R1 wr HR1.o e5 e6);go_wp2_with fail;refine HC.o.mono ?_;rintro e w9 ⟨rfl,hE⟩;have HEnd:=Zz hE;clear hE;go_wp2;go_end0;exact ⟨rfl,HEnd.o⟩
      ·
       have x6:decide (en < b) = false:=dF e6;have HEnd:=Zz (HZb.o R1 wr HR1.o e6);go_wp2;go_end0;exact ⟨rfl,HEnd.o⟩
     ·
      have x5:decide (mid < en) = false:=dF e5;have HEnd:=Zz (HZa.o R1 wr HR1.o e5);go_wp2;go_end0;exact ⟨rfl,HEnd.o⟩
  ·
   have x1:decide (i < m) = false:=dF e1;have HRow2:Hid (SR W g (P ++ (A1 ++ (B1 ++ (A2 ++ (B2 ++ Q))))) wr):=Zz (by
    have:A2 = []:=Zn (by have:=HLn.o.2.1;omega);have h:=HRow.o.1;rw [this] at h |-;exact h)
   clear HRow;by_cases e3:a < i
   ·
    have x3:decide (a < i) = true:=dT e3;by_cases e4:i < mid
    ·
     have x4:decide (i < mid) = true:=dT e4;have HC:=Zz (HRa.o wr HRow2.o e3 e4);go_wp2_with fail;refine HC.o.mono ?_;rintro e w8 ⟨rfl,R1,hp1,hs1,hS2⟩;have HR1:=Zz (show R1.Perm (A1 ++ B1)/\Sorted' R1/\SR W g (P ++ (R1 ++ (A2 ++ (B2 ++ Q)))) w8 from ⟨hp1,hs1,hS2⟩);clear hp1 hs1 hS2 HRow2 HC;by_cases e5:mid < en
     ·
      have x5:decide (mid < en) = true:=dT e5;by_cases e6:en < b
      ·
       have x6:decide (en < b) = true:=dT e6;have HC:=Zz (HRb.o R1 w8 HR1.o e5 e6);go_wp2_with fail;refine HC.o.mono ?_;rintro e w9 ⟨rfl,hE⟩;have HEnd:=Zz hE;clear hE;go_wp2;go_end0;exact ⟨rfl,HEnd.o⟩
      ·
       have x6:decide (en < b) = false:=dF e6;have HEnd:=Zz (HZb.o R1 w8 HR1.o e6);go_wp2;go_end0;exact ⟨rfl,HEnd.o⟩
     ·
      have x5:decide (mid < en) = false:=dF e5;have HEnd:=Zz (HZa.o R1 w8 HR1.o e5);go_wp2;go_end0;exact ⟨rfl,HEnd.o⟩
    ·
     have x4:decide (i < mid) = false:=dF e4;have HR1:Hid (A1.Perm (A1 ++ B1)/\Sorted' A1/\SR W g (P ++ (A1 ++ (A2 ++ (B2 ++ Q)))) wr):=Zz (by
      have:B1 = []:=Zn (by have:=HLn.o.2.2.1;omega);have h:=HRow2.o;rw [this] at h |-;exact ⟨by rw [Ze],HSt.o.1,h⟩)
     clear HRow2;obtain ⟨R1,hR1⟩:∃ R1,R1 = A1:=⟨_,rfl⟩;have HR1:Hid (R1.Perm (A1 ++ B1)/\Sorted' R1/\SR W g (P ++ (R1 ++ (A2 ++ (B2 ++ Q)))) wr):=Zz (by rw [hR1];exact HR1.o);clear hR1;by_cases e5:mid < en
     ·
      have x5:decide (mid < en) = true:=dT e5;by_cases e6:en < b
      ·
       have x6:decide (en < b) = true:=dT e6;have HC:=Zz (HRb.o R1 wr HR1.o e5 e6);go_wp2_with fail;refine HC.o.mono ?_;rintro e w9 ⟨rfl,hE⟩;have HEnd:=Zz hE;clear hE;go_wp2;go_end0;exact ⟨rfl,HEnd.o⟩
      ·
       have x6:decide (en < b) = false:=dF e6;have HEnd:=Zz (HZb.o R1 wr HR1.o e6);go_wp2;go_end0;exact ⟨rfl,HEnd.o⟩
     ·
      have x5:decide (mid < en) = false:=dF e5;have HEnd:=Zz (HZa.o R1 wr HR1.o e5);go_wp2;go_end0;exact ⟨rfl,HEnd.o⟩
   ·
    have x3:decide (a < i) = false:=dF e3;have HR1:Hid (B1.Perm (A1 ++ B1)/\Sorted' B1/\SR W g (P ++ (B1 ++ (A2 ++ (B2 ++ Q)))) wr):=Zz (by
     have:A1 = []:=Zn (by have:=HLn.o.1;omega);have h:=HRow2.o;rw [this] at h |-;exact ⟨List.Perm.refl _,HSt.o.2.2.1,h⟩)
    clear HRow2;obtain ⟨R1,hR1⟩:∃ R1,R1 = B1:=⟨_,rfl⟩;have HR1:Hid (R1.Perm (A1 ++ B1)/\Sorted' R1/\SR W g (P ++ (R1 ++ (A2 ++ (B2 ++ Q)))) wr):=Zz (by rw [hR1];exact HR1.o);clear hR1;by_cases e5:mid < en
    ·
     have x5:decide (mid < en) = true:=dT e5;by_cases e6:en < b
     ·
      have x6:decide (en < b) = true:=dT e6;have HC:=Zz (HRb.o R1 wr HR1.o e5 e6);go_wp2_with fail;refine HC.o.mono ?_;rintro e w9 ⟨rfl,hE⟩;have HEnd:=Zz hE;clear hE;go_wp2;go_end0;exact ⟨rfl,HEnd.o⟩
     ·
      have x6:decide (en < b) = false:=dF e6;have HEnd:=Zz (HZb.o R1 wr HR1.o e6);go_wp2;go_end0;exact ⟨rfl,HEnd.o⟩
    ·
     have x5:decide (mid < en) = false:=dF e5;have HEnd:=Zz (HZa.o R1 wr HR1.o e5);go_wp2;go_end0;exact ⟨rfl,HEnd.o⟩
end SortW
namespace SortW
open Go.RowKit Go.Lib B Rd Utf TermPure LinesPure Tx Env Tri SortP Print Cmp Long
theorem sym_gen2 (L cap:Nat) (hLs:L <= 140737488355328) (g:Nat) (W:World) (N:Nat) (hIH:SymC L cap g W N) (P A B Q:List Triple) (a m b:Nat) (w:World) (hN:A.length + B.length <= N + 1) (hA0:0 < A.length) (hB0:0 < B.length) (hL:(P ++ (A ++ (B ++ Q))).length = L) (ha:a = P.length) (hm:m = a + A.length) (hb:b = m + B.length) (hA:Sorted' A) (hB:Sorted' B) (hsm:∀ t ∈ A ++ B,SmallT t) (hS:SR W g (P ++ (A ++ (B ++ Q))) w) (c1:¬ A.length = 1) (c2:¬ B.length = 1) (hcase:m <= (a + b) / 2) :
  Calls Tryz.prog 195 #[.slice (some ⟨g,0,none⟩) L cap,.int .i64 a,.int .i64 m,.int .i64 b,cmpV] w fun e w'=>e = .returned (.tuple #[])/\∃ R,R.Perm (A ++ B)/\Sorted' R/\SR W g (P ++ (R ++ Q)) w':=by
 have hlen:=hL;simp only [Zl] at hlen;have IH:=Zz hIH;obtain ⟨d0,hd0⟩:∃ d0,d0 = m - a:=⟨_,rfl⟩;have w0:IntKind.i64.wrap ((m:Int) - (a:Int)) = (d0:Int):=by rw [Zw];omega
 have w00:((d0:Int) == 1) = false:=by rw [Zb];omega
 obtain ⟨d1,hd1⟩:∃ d1,d1 = b - m:=⟨_,rfl⟩;have w1:IntKind.i64.wrap ((b:Int) - (m:Int)) = (d1:Int):=by rw [Zw];omega
 have w11:((d1:Int) == 1) = false:=by rw [Zb];omega
 obtain ⟨mid,hmid⟩:∃ mid,mid = (a + b) / 2:=⟨_,rfl⟩;have hq:((a:Int) + (b:Int)) / 2 = (mid:Int):=by omega
 obtain ⟨n,hn⟩:∃ n,n = mid + m:=⟨_,rfl⟩;have wn:IntKind.i64.wrap ((mid:Int) + (m:Int)) = (n:Int):=by rw [Zw];omega
 obtain ⟨p,hp⟩:∃ p,p + 1 = n:=⟨n - 1,by omega⟩;have wp:IntKind.i64.wrap ((n:Int) - 1) = (p:Int):=by rw [Zw];omega
 rw [<- hmid] at hcase;have HSR:Hid ((mid < m/\a + b = n/\m = mid) \/ (m <= mid/\a = a/\m = m)):=Zz (.inr ⟨hcase,rfl,rfl⟩);have hdm:decide (mid < m) = false:=dF (by omega);have hbds:a <= a/\a <= m/\m <= m/\a <= n:=by omega
 have hin:∀ c,a <= c -> c < m -> m <= p - c/\p - c < b/\a <= c/\c < m/\c <= p:=fun c h1 h2=>by omega
 obtain ⟨hb1,hb2,hb3,hb4⟩:=hbds;have hbL:b <= L:=by omega
 have ham:a < m:=by omega
 have hmb:m < b:=by omega
 have hamid:a < mid:=by omega
 have hmidb:mid < b:=by omega
 have HIn:=Zz hin;have HA:=Zz (show a = P.length/\m = P.length + A.length/\b = m + B.length/\mid = (a + b) / 2/\n = mid + m/\p + 1 = n/\A.length + B.length <= N + 1 from ⟨ha,by omega,hb,hmid,hn,hp,hN⟩);have HAs:=Zz hA;have HBs:=Zz hB;have HSm:=Zz hsm;have HS0:=Zz hS;have HL:=Zz hL;clear hin hS hL hlen ha hb hA hB hsm hm hd0 hd1 hmid hn hp c1 c2 hA0 hB0 hN hIH;unfold cmpV at *;go_enter func195,ntmps195;go_wp2;go_loopw [20,21] (fun vi vj wr=>∃ i j:Nat,vi = .int .i64 i/\vj = .int .i64 j/\a <= i/\i <= j/\j <= m/\Hid ((i = a \/ ∃ u v,A[i - 1 - a]? = some u/\B[n - i - m]? = some v/\¬ ltT v u)/\(j = m \/ ∃ u v,A[j - a]? = some u/\B[p - j - m]? = some v/\ltT v u)/\SR W g (P ++ (A ++ (B ++ Q))) wr)) (fun vi vj _=>(intOf vj).toNat - (intOf vi).toNat)
 case atStart=>exact ⟨a,m,rfl,rfl,by omega,by omega,by omega,Zz ⟨.inl rfl,.inl rfl,HS0.o⟩⟩
 case round =>
 obtain ⟨i,j,rfl,rfl,hmi,hij,hjb,HR⟩:=hrel;clear HS0 w0 w00 w1 w11 hq wn;by_cases hlt:i < j
 ·
  have hd:decide (i < j) = true:=dT hlt;obtain ⟨h,hh⟩:∃ h,h = (i + j) / 2:=⟨_,rfl⟩;have hq:((i:Int) + (j:Int)) / 2 = (h:Int):=by omega
  have hih:i <= h:=by omega
  have hhj:h < j:=by omega
  clear hh;obtain ⟨i1,i2,i3,i4,i5⟩:=HIn.o h (by omega) (by omega);obtain ⟨pc,hpc⟩:∃ pc,pc = p - h:=⟨_,rfl⟩;have wpc:IntKind.i64.wrap ((p:Int) - (h:Int)) = (pc:Int):=by rw [Zw];omega
  have hhb:(h:Int) < (L:Int):=by omega
  have hab:(pc:Int) < (L:Int):=by omega
  have hAl:h - a < A.length:=by have h1:=HA.o.1;have h2:=HA.o.2.1;omega
  have hBl:pc - m < B.length:=by have h1:=HA.o.2.2.1;omega
  obtain ⟨x,hu⟩:∃ x,A[h - a]? = some x:=⟨_,Zg hAl⟩;obtain ⟨y,hv⟩:∃ y,B[pc - m]? = some y:=⟨_,Zg hBl⟩;have hrow:(P ++ (A ++ (B ++ Q)))[h]? = some x:=by
   rw [<- hu,<- at_A (P:=P) (A:=A) (B:=B) (Q:=Q) hAl];congr 1;have:=HA.o.1;omega
  have hrow0:(P ++ (A ++ (B ++ Q)))[pc]? = some y:=by
   rw [<- hv,<- at_B (P:=P) (A:=A) (B:=B) (Q:=Q) hBl];congr 1;have:=HA.o.2.1;omega
  have hcu:=HR.o.2.2.at hrow;have hcv:=HR.o.2.2.at hrow0;have hgl:=hcu.lt;have HBk:Hid (∀ w2,Below wr.heap.size wr w2 -> SR W g (P ++ (A ++ (B ++ Q))) w2):=Zz (fun w2 hb=>HR.o.2.2.below hgl hb);have HC:=Zz (fun w=>cmp_calls y x (HSm.o y (List.mem_append_right _ (List.mem_of_getElem? hv))) (HSm.o x (List.mem_append_left _ (List.mem_of_getElem? hu))) w);have HLt:Hid (cmpT y x < 0 ↔ ltT y x):=Zz Iff.rfl;have HU:Hid (A[h - a]? = some x/\B[p - h - m]? = some y/\B[n - (h + 1) - m]? = some y):=Zz ⟨hu,by rw [<- hpc];exact hv,by rw [<- hv];congr 1;have:=HA.o.2.2.2.2.2.1;omega⟩;have HI:=Zz HR.o.1;have HJ:=Zz HR.o.2.1;obtain ⟨r,hr⟩:∃ r,r = cmpT y x:=⟨_,rfl⟩;rw [<- hr] at HC HLt;clear hr hu hv hrow hrow0 hAl hBl HR hpc;by_cases hvn:r < 0
  ·
   have hvd:decide (r < 0) = true:=dT hvn;have HYL:Hid (ltT y x):=Zz (HLt.o.1 hvn);have HJ2:Hid (h = m \/ ∃ u v,A[h - a]? = some u/\B[p - h - m]? = some v/\ltT v u):=Zz (.inr ⟨x,y,HU.o.1,HU.o.2.1,HYL.o⟩);clear hvn HLt HU HYL HJ;obtain ⟨⟨sk',sx',se'⟩,⟨pk',px',pe'⟩,⟨ok',ox',oe'⟩⟩:=y;obtain ⟨⟨sk,sx,se⟩,⟨pk,px,pe⟩,⟨ok,ox,oe⟩⟩:=x;have y0:=fun p=>(hcv.bel p).c0
   have y1:=fun p=>(hcv.bel p).c1
   have y2:=fun p=>(hcv.bel p).c2
   have y3:=fun p=>(hcv.bel p).c3
   have y4:=fun p=>(hcv.bel p).c4
   have y5:=fun p=>(hcv.bel p).c5
   have y6:=fun p=>(hcv.bel p).c6
   have y7:=fun p=>(hcv.bel p).c7
   have y8:=fun p=>(hcv.bel p).c8
   have x0:=fun p=>(hcu.bel p).c0
   have x1:=fun p=>(hcu.bel p).c1
   have x2:=fun p=>(hcu.bel p).c2
   have x3:=fun p=>(hcu.bel p).c3
   have x4:=fun p=>(hcu.bel p).c4
   have x5:=fun p=>(hcu.bel p).c5
   have x6:=fun p=>(hcu.bel p).c6
   have x7:=fun p=>(hcu.bel p).c7
   have x8:=fun p=>(hcu.bel p).c8
   dsimp only at y0 y1 y2 y3 y4 y5 y6 y7 y8 x0 x1 x2 x3 x4 x5 x6 x7 x8;unfold Ref5.tripleV at HC;dsimp only at HC;go_upto_region 35 with fail
   refine QT.region_all (by kernel_rfl) (by kernel_rfl) ?_
   iterate 11 (go_big_quiet_step (fail))
   go_big_quiet_step (exact QT.Bel.call _ (HC.o _))
   iterate 2 (go_big_quiet_step (fail))
   refine wpQuiet_nil ?_;intro w2 hw';obtain ⟨⟨_,hb⟩,rfl⟩:=hw';have HS2:=Zz (HBk.o w2 hb);clear hb y0 y1 y2 y3 y4 y5 y6 y7 y8 x0 x1 x2 x3 x4 x5 x6 x7 x8 hcu hcv;go_wp2;go_roundw
   case rel=>exact ⟨i,h,rfl,by go_num,hmi,by omega,by omega,Zz ⟨HI.o,HJ2.o,HS2.o⟩⟩
   case measure=>simp [intOf];omega
  ·
   have hvd:decide (r < 0) = false:=dF hvn;have HYL:Hid (¬ ltT y x):=Zz (fun hl=>hvn (HLt.o.2 hl));have HI2:Hid (h + 1 = a \/ ∃ u v,A[h + 1 - 1 - a]? = some u/\B[n - (h + 1) - m]? = some v/\¬ ltT v u):=Zz (.inr ⟨x,y,by rw [show h + 1 - 1 - a = h - a by omega];exact HU.o.1,HU.o.2.2,HYL.o⟩);clear hvn HLt HU HYL HI;obtain ⟨⟨sk',sx',se'⟩,⟨pk',px',pe'⟩,⟨ok',ox',oe'⟩⟩:=y;obtain ⟨⟨sk,sx,se⟩,⟨pk,px,pe⟩,⟨ok,ox,oe⟩⟩:=x;have y0:=fun p=>(hcv.bel p).c0
   have y1:=fun p=>(hcv.bel p).c1
   have y2:=fun p=>(hcv.bel p).c2
   have y3:=fun p=>(hcv.bel p).c3
   have y4:=fun p=>(hcv.bel p).c4
   have y5:=fun p=>(hcv.bel p).c5
   have y6:=fun p=>(hcv.bel p).c6
   have y7:=fun p=>(hcv.bel p).c7
   have y8:=fun p=>(hcv.bel p).c8
   have x0:=fun p=>(hcu.bel p).c0
   have x1:=fun p=>(hcu.bel p).c1
   have x2:=fun p=>(hcu.bel p).c2
   have x3:=fun p=>(hcu.bel p).c3
   have x4:=fun p=>(hcu.bel p).c4
   have x5:=fun p=>(hcu.bel p).c5
   have x6:=fun p=>(hcu.bel p).c6
   have x7:=fun p=>(hcu.bel p).c7
   have x8:=fun p=>(hcu.bel p).c8
   dsimp only at y0 y1 y2 y3 y4 y5 y6 y7 y8 x0 x1 x2 x3 x4 x5 x6 x7 x8;unfold Ref5.tripleV at HC;dsimp only at HC;go_upto_region 35 with fail
   refine QT.region_all (by kernel_rfl) (by kernel_rfl) ?_
   iterate 11 (go_big_quiet_step (fail))
   go_big_quiet_step (exact QT.Bel.call _ (HC.o _))
   iterate 2 (go_big_quiet_step (fail))
   refine wpQuiet_nil ?_;intro w2 hw';obtain ⟨⟨_,hb⟩,rfl⟩:=hw';have HS2:=Zz (HBk.o w2 hb);clear hb y0 y1 y2 y3 y4 y5 y6 y7 y8 x0 x1 x2 x3 x4 x5 x6 x7 x8 hcu hcv;go_wp2;go_roundw
   case rel=>exact ⟨h + 1,j,by go_num,rfl,by omega,by omega,hjb,Zz ⟨HI2.o,HJ.o,HS2.o⟩⟩
   case measure=>simp [intOf];omega
 ·
  have hd:decide (i < j) = false:=dF hlt;obtain rfl:i = j:=by omega
  obtain ⟨en,hen⟩:∃ en,en = n - i:=⟨_,rfl⟩;have wen:IntKind.i64.wrap ((n:Int) - (i:Int)) = (en:Int):=by rw [Zw];have:=HA.o.2.2.2.2.1;omega
  have hbnd:a <= i/\i <= m/\m <= en/\en <= b/\mid + m = i + en/\i <= mid/\mid <= en:=by
   have h1:=HA.o.2.2.2.2.1;have h2:=HA.o.2.2.2.1;rcases HSR.o with ⟨h3,h4,h5⟩ | ⟨h3,h4,h5⟩ <;> omega
  obtain ⟨n1,n2,n3,n4,n5,n6,n7⟩:=hbnd;obtain ⟨A1,hA1⟩:∃ A1,A1 = A.take (i - a):=⟨_,rfl⟩;obtain ⟨A2,hA2⟩:∃ A2,A2 = A.drop (i - a):=⟨_,rfl⟩;obtain ⟨B1,hB1⟩:∃ B1,B1 = B.take (en - m):=⟨_,rfl⟩;obtain ⟨B2,hB2⟩:∃ B2,B2 = B.drop (en - m):=⟨_,rfl⟩;have HLn:Hid (A1.length = i - a/\A2.length = m - i/\B1.length = en - m/\B2.length = b - en):=Zz (by
   have h1:=HA.o.1;have h2:=HA.o.2.1;have h3:=HA.o.2.2.1
   rw [hA1,hA2,hB1,hB2,Zi,Zj,Zi,Zj];omega)
  have HAB:Hid (A = A1 ++ A2/\B = B1 ++ B2):=Zz ⟨by rw [hA1,hA2,List.take_append_drop],by rw [hB1,hB2,List.take_append_drop]⟩;have HHalf:Hid (∀ R1 R2,R1.Perm (A1 ++ B1) -> R2.Perm (A2 ++ B2) -> Sorted' R1 -> Sorted' R2 -> (R1 ++ R2).Perm (A ++ B)/\Sorted' (R1 ++ R2)):=Zz (by
   intro R1 R2 p1 p2 s1 s2;have h1:=HA.o.1;have h2:=HA.o.2.1;have h3:=HA.o.2.2.1;have h4:=HA.o.2.2.2.2.1;have h5:=HA.o.2.2.2.2.2.1
   refine halves (s:=i - a) (e:=en - m) HAs.o HBs.o ?_ ?_ (by rw [<- hA1,<- hB1];exact p1) (by rw [<- hA2,<- hB2];exact p2) s1 s2
   ·
    rcases HR.o.1 with h | ⟨u,v,hu,hv,hl⟩
    ·
     rcases HSR.o with ⟨h6,h7,h8⟩ | ⟨h6,h7,h8⟩
     ·
      right;left;omega
     ·
      left;omega
    ·
     right;right;exact ⟨u,v,by rw [<- hu];congr 1;omega,by rw [<- hv];congr 1;omega,hl⟩
   ·
    rcases HR.o.2.1 with h | ⟨u,v,hu,hv,hl⟩
    ·
     rcases HSR.o with ⟨h6,h7,h8⟩ | ⟨h6,h7,h8⟩
     ·
      right;left;omega
     ·
      left;omega
    ·
     right;right;exact ⟨v,u,by rw [<- hv];congr 1;omega,hu,ltT_asymm hl⟩)
  have HSm2:Hid ((∀ t ∈ A1 ++ B1,SmallT t)/\(∀ t ∈ A2 ++ B2,SmallT t)):=Zz (by
   have h:=HSm.o;rw [HAB.o.1,HAB.o.2] at h;refine ⟨fun t ht=>h t ?_,fun t ht=>h t ?_⟩
   ·
    rcases Zk.1 ht with ht | ht <;> simp [ht]
   ·
    rcases Zk.1 ht with ht | ht <;> simp [ht])
  have HSt:Hid (Sorted' A1/\Sorted' A2/\Sorted' B1/\Sorted' B2):=Zz (by
   have hA:=HAs.o;have hB:=HBs.o;rw [HAB.o.1] at hA;rw [HAB.o.2] at hB;exact ⟨(List.pairwise_append.1 hA).1,(List.pairwise_append.1 hA).2.1,(List.pairwise_append.1 hB).1,(List.pairwise_append.1 hB).2.1⟩)
  have HRow:Hid (SR W g (P ++ (A1 ++ (A2 ++ (B1 ++ (B2 ++ Q))))) wr/\P.length + (A1.length + (A2.length + (B1.length + (B2.length + Q.length)))) = L):=Zz (by
   have h:=HR.o.2.2;have hl:=HL.o;rw [HAB.o.1,HAB.o.2] at h hl;refine ⟨by simpa [Za] using h,?_⟩;simp only [Zl] at hl;omega)
  clear HR HAs HBs HSm HL hA1 hA2 hB1 hB2 hen;have HTot:=Zz HRow.o.2;have HRa:=Zz (fun wx (h:SR W g (P ++ (A1 ++ (B1 ++ (A2 ++ (B2 ++ Q))))) wx) (k1:a < i) (k2:i < mid)=>IH.o P A1 B1 (A2 ++ (B2 ++ Q)) a i mid wx (by have h1:=HLn.o.1;have h2:=HLn.o.2.2.1;have h3:=HA.o;omega) (by have:=HLn.o.1;omega) (by have:=HLn.o.2.2.1;omega) (by have:=HTot.o;simp only [Zl];omega) HA.o.1 (by have:=HLn.o.1;omega) (by have h2:=HLn.o.2.2.1;omega) HSt.o.1 HSt.o.2.2.1 HSm2.o.1 h);have HRb:Hid (∀ (R1:List Triple) wx,(R1.Perm (A1 ++ B1)/\Sorted' R1/\SR W g (P ++ (R1 ++ (A2 ++ (B2 ++ Q)))) wx) -> mid < en -> en < b -> Calls Tryz.prog 195 #[.slice (some ⟨g,0,none⟩) L cap,.int .i64 mid,.int .i64 en,.int .i64 b,cmpV] wx fun e wx=>e = .returned (.tuple #[])/\∃ R,R.Perm (A ++ B)/\Sorted' R/\SR W g (P ++ (R ++ Q)) wx):=Zz (fun R1 wx h k1 k2=>by
   have HR1:=Zz h;have HL1:Hid (R1.length = mid - a):=Zz (by rw [HR1.o.1.length_eq,Zl,HLn.o.1,HLn.o.2.2.1];omega);refine (IH.o (P ++ R1) A2 B2 Q mid en b wx (by have h1:=HLn.o.2.1;have h2:=HLn.o.2.2.2;have h3:=HA.o;omega) (by have:=HLn.o.2.1;omega) (by have:=HLn.o.2.2.2;omega) (by have h0:=HTot.o;have h1:=HL1.o;have h2:=HLn.o;simp only [Zl];omega) (by have h1:=HL1.o;have h2:=HA.o.1;rw [Zl];omega) (by have:=HLn.o.2.1;omega) (by have h2:=HLn.o.2.2.2;omega) HSt.o.2.1 HSt.o.2.2.2 HSm2.o.2 (by rw [Za];exact HR1.o.2.2)).mono ?_;rintro e w9 ⟨rfl,R2,hp2,hs2,hS2⟩;exact ⟨rfl,⟨R1 ++ R2,(HHalf.o R1 R2 HR1.o.1 hp2 HR1.o.2.1 hs2).1,(HHalf.o R1 R2 HR1.o.1 hp2 HR1.o.2.1 hs2).2,by simpa [Za] using hS2⟩⟩)
  have HZb:Hid (∀ (R1:List Triple) wx,(R1.Perm (A1 ++ B1)/\Sorted' R1/\SR W g (P ++ (R1 ++ (A2 ++ (B2 ++ Q)))) wx) -> ¬ en < b -> ∃ R,R.Perm (A ++ B)/\Sorted' R/\SR W g (P ++ (R ++ Q)) wx):=Zz (fun R1 wx hr k=>by
   have h0:B2 = []:=Zn (by have:=HLn.o.2.2.2;omega);have h:=HHalf.o R1 A2 hr.1 (by rw [h0,Ze]) hr.2.1 HSt.o.2.1;have h2:=hr.2.2;rw [h0] at h2;exact ⟨_,h.1,h.2,by simpa [Za] using h2⟩)
  have HZa:Hid (∀ (R1:List Triple) wx,(R1.Perm (A1 ++ B1)/\Sorted' R1/\SR W g (P ++ (R1 ++ (A2 ++ (B2 ++ Q)))) wx) -> ¬ mid < en -> ∃ R,R.Perm (A ++ B)/\Sorted' R/\SR W g (P ++ (R ++ Q)) wx):=Zz (fun R1 wx hr k=>by
   have h0:A2 = []:=Zn (by have:=HLn.o.2.1;omega);have h:=HHalf.o R1 B2 hr.1 (by rw [h0,Zf]) hr.2.1 HSt.o.2.2.2;have h2:=hr.2.2;rw [h0] at h2;exact ⟨_,h.1,h.2,by simpa [Za] using h2⟩)
  unfold cmpV at HRb;by_cases e1:i < m
  ·
   have x1:decide (i < m) = true:=dT e1;by_cases e2:m < en
   ·
    have x2:decide (m < en) = true:=dT e2;have HC:=Zz (rotate_calls (.func (.func 119) #[] #[]) (P ++ A1) A2 B1 (B2 ++ Q) (by have:=HLn.o.2.1;omega) (by have:=HLn.o.2.2.1;omega) L (by have:=HRow.o.2;simp only [Zl];omega) hLs i m en cap (by have h1:=HLn.o.1;have h2:=HA.o.1;rw [Zl];omega) (by have:=HLn.o.2.1;omega) (by have:=HLn.o.2.2.1;omega) g W wr (by have:=HRow.o.1;rw [Za];exact this));go_wp2_with fail;refine HC.o.mono ?_;rintro e w7 ⟨rfl,hS2⟩;have HRow2:Hid (SR W g (P ++ (A1 ++ (B1 ++ (A2 ++ (B2 ++ Q))))) w7):=Zz (by rw [<- Za];exact hS2);clear hS2 HRow HC;by_cases e3:a < i
    ·
     have x3:decide (a < i) = true:=dT e3;by_cases e4:i < mid
     ·
      have x4:decide (i < mid) = true:=dT e4;have HC:=Zz (HRa.o w7 HRow2.o e3 e4);go_wp2_with fail;refine HC.o.mono ?_;rintro e w8 ⟨rfl,R1,hp1,hs1,hS2⟩;have HR1:=Zz (show R1.Perm (A1 ++ B1)/\Sorted' R1/\SR W g (P ++ (R1 ++ (A2 ++ (B2 ++ Q)))) w8 from ⟨hp1,hs1,hS2⟩);clear hp1 hs1 hS2 HRow2 HC;by_cases e5:mid < en
      ·
       have x5:decide (mid < en) = true:=dT e5;by_cases e6:en < b
       ·
        have x6:decide (en < b) = true:=dT e6;have HC:=Zz (HRb.o R1 w8 HR1.o e5 e6);go_wp2_with fail;refine HC.o.mono ?_;rintro e w9 ⟨rfl,hE⟩;have HEnd:=Zz hE;clear hE;go_wp2;go_end0;exact ⟨rfl,HEnd.o⟩
       ·
        have x6:decide (en < b) = false:=dF e6;have HEnd:=Zz (HZb.o R1 w8 HR1.o e6);go_wp2;go_end0;exact ⟨rfl,HEnd.o⟩
      ·
       have x5:decide (mid < en) = false:=dF e5;have HEnd:=Zz (HZa.o R1 w8 HR1.o e5);go_wp2;go_end0;exact ⟨rfl,HEnd.o⟩
     ·
      have x4:decide (i < mid) = false:=dF e4;have HR1:Hid (A1.Perm (A1 ++ B1)/\Sorted' A1/\SR W g (P ++ (A1 ++ (A2 ++ (B2 ++ Q)))) w7):=Zz (by
       have:B1 = []:=Zn (by have:=HLn.o.2.2.1;omega);have h:=HRow2.o;rw [this] at h |-;exact ⟨by rw [Ze],HSt.o.1,h⟩)
      clear HRow2;obtain ⟨R1,hR1⟩:∃ R1,R1 = A1:=⟨_,rfl⟩;have HR1:Hid (R1.Perm (A1 ++ B1)/\Sorted' R1/\SR W g (P ++ (R1 ++ (A2 ++ (B2 ++ Q)))) w7):=Zz (by rw [hR1];exact HR1.o);clear hR1;by_cases e5:mid < en
      ·
       have x5:decide (mid < en) = true:=dT e5;by_cases e6:en < b
       ·
        have x6:decide (en < b) = true:=dT e6;have HC:=Zz (HRb.o R1 w7 HR1.o e5 e6);go_wp2_with fail;refine HC.o.mono ?_;rintro e w9 ⟨rfl,hE⟩;have HEnd:=Zz hE;clear hE;go_wp2;go_end0;exact ⟨rfl,HEnd.o⟩
       ·
        have x6:decide (en < b) = false:=dF e6;have HEnd:=Zz (HZb.o R1 w7 HR1.o e6);go_wp2;go_end0;exact ⟨rfl,HEnd.o⟩
      ·
       have x5:decide (mid < en) = false:=dF e5;have HEnd:=Zz (HZa.o R1 w7 HR1.o e5);go_wp2;go_end0;exact ⟨rfl,HEnd.o⟩
    ·
     have x3:decide (a < i) = false:=dF e3;have HR1:Hid (B1.Perm (A1 ++ B1)/\Sorted' B1/\SR W g (P ++ (B1 ++ (A2 ++ (B2 ++ Q)))) w7):=Zz (by
      have:A1 = []:=Zn (by have:=HLn.o.1;omega);have h:=HRow2.o;rw [this] at h |-;exact ⟨List.Perm.refl _,HSt.o.2.2.1,h⟩)
     clear HRow2;obtain ⟨R1,hR1⟩:∃ R1,R1 = B1:=⟨_,rfl⟩;have HR1:Hid (R1.Perm (A1 ++ B1)/\Sorted' R1/\SR W g (P ++ (R1 ++ (A2 ++ (B2 ++ Q)))) w7):=Zz (by rw [hR1];exact HR1.o);clear hR1;by_cases e5:mid < en
     ·
      have x5:decide (mid < en) = true:=dT e5;by_cases e6:en < b
      ·
       have x6:decide (en < b) = true:=dT e6;have HC:=Zz (HRb.o R1 w7 HR1.o e5 e6);go_wp2_with fail;refine HC.o.mono ?_;rintro e w9 ⟨rfl,hE⟩;have HEnd:=Zz hE;clear hE;go_wp2;go_end0;exact ⟨rfl,HEnd.o⟩
      ·
       have x6:decide (en < b) = false:=dF e6;have HEnd:=Zz (HZb.o R1 w7 HR1.o e6);go_wp2;go_end0;exact ⟨rfl,HEnd.o⟩
     ·
      have x5:decide (mid < en) = false:=dF e5;have HEnd:=Zz (HZa.o R1 w7 HR1.o e5);go_wp2;go_end0;exact ⟨rfl,HEnd.o⟩
   ·
    have x2:decide (m < en) = false:=dF e2;have HRow2:Hid (SR W g (P ++ (A1 ++ (B1 ++ (A2 ++ (B2 ++ Q))))) wr):=Zz (by
     have:B1 = []:=Zn (by have:=HLn.o.2.2.1;omega);have h:=HRow.o.1;rw [this] at h |-;exact h)
    clear HRow;by_cases e3:a < i
    ·
     have x3:decide (a < i) = true:=dT e3;by_cases e4:i < mid
     ·
      have x4:decide (i < mid) = true:=dT e4;have HC:=Zz (HRa.o wr HRow2.o e3 e4);go_wp2_with fail;refine HC.o.mono ?_;rintro e w8 ⟨rfl,R1,hp1,hs1,hS2⟩;have HR1:=Zz (show R1.Perm (A1 ++ B1)/\Sorted' R1/\SR W g (P ++ (R1 ++ (A2 ++ (B2 ++ Q)))) w8 from ⟨hp1,hs1,hS2⟩);clear hp1 hs1 hS2 HRow2 HC;by_cases e5:mid < en
      ·
       have x5:decide (mid < en) = true:=dT e5;by_cases e6:en < b
       ·
        have x6:decide (en < b) = true:=dT e6;have HC:=Zz (HRb.o R1 w8 HR1.o e5 e6);go_wp2_with fail;refine HC.o.mono ?_;rintro e w9 ⟨rfl,hE⟩;have HEnd:=Zz hE;clear hE;go_wp2;go_end0;exact ⟨rfl,HEnd.o⟩
       ·
        have x6:decide (en < b) = false:=dF e6;have HEnd:=Zz (HZb.o R1 w8 HR1.o e6);go_wp2;go_end0;exact ⟨rfl,HEnd.o⟩
      ·
       have x5:decide (mid < en) = false:=dF e5;have HEnd:=Zz (HZa.o R1 w8 HR1.o e5);go_wp2;go_end0;exact ⟨rfl,HEnd.o⟩
     ·
      have x4:decide (i < mid) = false:=dF e4;have HR1:Hid (A1.Perm (A1 ++ B1)/\Sorted' A1/\SR W g (P ++ (A1 ++ (A2 ++ (B2 ++ Q)))) wr):=Zz (by
       have:B1 = []:=Zn (by have:=HLn.o.2.2.1;omega);have h:=HRow2.o;rw [this] at h |-;exact ⟨by rw [Ze],HSt.o.1,h⟩)
      clear HRow2;obtain ⟨R1,hR1⟩:∃ R1,R1 = A1:=⟨_,rfl⟩;have HR1:Hid (R1.Perm (A1 ++ B1)/\Sorted' R1/\SR W g (P ++ (R1 ++ (A2 ++ (B2 ++ Q)))) wr):=Zz (by rw [hR1];exact HR1.o);clear hR1;by_cases e5:mid < en
      ·
       have x5:decide (mid < en) = true:=dT e5;by_cases e6:en < b
       ·
        have x6:decide (en < b) = true:=dT e6;have HC:=Zz (HRb.o R1 wr HR1.o e5 e6);go_wp2_with fail;refine HC.o.mono ?_;rintro e w9 ⟨rfl,hE⟩;have HEnd:=Zz hE;clear hE;go_wp2;go_end0;exact ⟨rfl,HEnd.o⟩
       ·
        have x6:decide (en < b) = false:=dF e6;have HEnd:=Zz (HZb.o R1 wr HR1.o e6);go_wp2;go_end0;exact ⟨rfl,HEnd.o⟩
      ·
       have x5:decide (mid < en) = false:=dF e5;have HEnd:=Zz (HZa.o R1 wr HR1.o e5);go_wp2;go_end0;exact ⟨rfl,HEnd.o⟩
    ·
     have x3:decide (a < i) = false:=dF e3;have HR1:Hid (B1.Perm (A1 ++ B1)/\Sorted' B1/\SR W g (P ++ (B1 ++ (A2 ++ (B2 ++ Q)))) wr):=Zz (by
      have:A1 = []:=Zn (by have:=HLn.o.1;omega);have h:=HRow2.o;rw [this] at h |-;exact ⟨List.Perm.refl _,HSt.o.2.2.1,h⟩)
     clear HRow2;obtain ⟨R1,hR1⟩:∃ R1,R1 = B1:=⟨_,rfl⟩;have HR1:Hid (R1.Perm (A1 ++ B1)/\Sorted' R1/\SR W g (P ++ (R1 ++ (A2 ++ (B2 ++ Q)))) wr):=Zz (by rw [hR1];exact HR1.o);clear hR1;by_cases e5:mid < en
     ·
      have x5:decide (mid < en) = true:=dT e5;by_cases e6:en < b
      ·
       have x6:decide (en < b) = true:=dT e6;have HC:=Zz (HRb.o R1 wr HR1.o e5 e6);go_wp2_with fail;refine HC.o.mono ?_;rintro e w9 ⟨rfl,hE⟩;have HEnd:=Zz hE;clear hE;go_wp2;go_end0;exact ⟨rfl,HEnd.o⟩
      ·
       have x6:decide (en < b) = false:=dF e6;have HEnd:=Zz (HZb.o R1 wr HR1.o e6);go_wp2;go_end0;exact ⟨rfl,HEnd.o⟩
     ·
      have x5:decide (mid < en) = false:=dF e5;have HEnd:=Zz (HZa.o R1 wr HR1.o e5);go_wp2;go_end0;exact ⟨rfl,HEnd.o⟩
  ·
   have x1:decide (i < m) = false:=dF e1;have HRow2:Hid (SR W g (P ++ (A1 ++ (B1 ++ (A2 ++ (B2 ++ Q))))) wr):=Zz (by
    have:A2 = []:=Zn (by have:=HLn.o.2.1;omega);have h:=HRow.o.1;rw [this] at h |-;exact h)
   clear HRow;by_cases e3:a < i
   ·
    have x3:decide (a < i) = true:=dT e3;by_cases e4:i < mid
    ·
     have x4:decide (i < mid) = true:=dT e4;have HC:=Zz (HRa.o wr HRow2.o e3 e4);go_wp2_with fail;refine HC.o.mono ?_;rintro e w8 ⟨rfl,R1,hp1,hs1,hS2⟩;have HR1:=Zz (show R1.Perm (A1 ++ B1)/\Sorted' R1/\SR W g (P ++ (R1 ++ (A2 ++ (B2 ++ Q)))) w8 from ⟨hp1,hs1,hS2⟩);clear hp1 hs1 hS2 HRow2 HC;by_cases e5:mid < en
     ·
      have x5:decide (mid < en) = true:=dT e5;by_cases e6:en < b
      ·
       have x6:decide (en < b) = true:=dT e6;have HC:=Zz (HRb.o R1 w8 HR1.o e5 e6);go_wp2_with fail;refine HC.o.mono ?_;rintro e w9 ⟨rfl,hE⟩;have HEnd:=Zz hE;clear hE;go_wp2;go_end0;exact ⟨rfl,HEnd.o⟩
      ·
       have x6:decide (en < b) = false:=dF e6;have HEnd:=Zz (HZb.o R1 w8 HR1.o e6);go_wp2;go_end0;exact ⟨rfl,HEnd.o⟩
     ·
      have x5:decide (mid < en) = false:=dF e5;have HEnd:=Zz (HZa.o R1 w8 HR1.o e5);go_wp2;go_end0;exact ⟨rfl,HEnd.o⟩
    ·
     have x4:decide (i < mid) = false:=dF e4;have HR1:Hid (A1.Perm (A1 ++ B1)/\Sorted' A1/\SR W g (P ++ (A1 ++ (A2 ++ (B2 ++ Q)))) wr):=Zz (by
      have:B1 = []:=Zn (by have:=HLn.o.2.2.1;omega);have h:=HRow2.o;rw [this] at h |-;exact ⟨by rw [Ze],HSt.o.1,h⟩)
     clear HRow2;obtain ⟨R1,hR1⟩:∃ R1,R1 = A1:=⟨_,rfl⟩;have HR1:Hid (R1.Perm (A1 ++ B1)/\Sorted' R1/\SR W g (P ++ (R1 ++ (A2 ++ (B2 ++ Q)))) wr):=Zz (by rw [hR1];exact HR1.o);clear hR1;by_cases e5:mid < en
     ·
      have x5:decide (mid < en) = true:=dT e5;by_cases e6:en < b
      ·
       have x6:decide (en < b) = true:=dT e6;have HC:=Zz (HRb.o R1 wr HR1.o e5 e6);go_wp2_with fail;refine HC.o.mono ?_;rintro e w9 ⟨rfl,hE⟩;have HEnd:=Zz hE;clear hE;go_wp2;go_end0;exact ⟨rfl,HEnd.o⟩
      ·
       have x6:decide (en < b) = false:=dF e6;have HEnd:=Zz (HZb.o R1 wr HR1.o e6);go_wp2;go_end0;exact ⟨rfl,HEnd.o⟩
     ·
      have x5:decide (mid < en) = false:=dF e5;have HEnd:=Zz (HZa.o R1 wr HR1.o e5);go_wp2;go_end0;exact ⟨rfl,HEnd.o⟩
   ·
    have x3:decide (a < i) = false:=dF e3;have HR1:Hid (B1.Perm (A1 ++ B1)/\Sorted' B1/\SR W g (P ++ (B1 ++ (A2 ++ (B2 ++ Q)))) wr):=Zz (by
     have:A1 = []:=Zn (by have:=HLn.o.1;omega);have h:=HRow2.o;rw [this] at h |-;exact ⟨List.Perm.refl _,HSt.o.2.2.1,h⟩)
    clear HRow2;obtain ⟨R1,hR1⟩:∃ R1,R1 = B1:=⟨_,rfl⟩;have HR1:Hid (R1.Perm (A1 ++ B1)/\Sorted' R1/\SR W g (P ++ (R1 ++ (A2 ++ (B2 ++ Q)))) wr):=Zz (by rw [hR1];exact HR1.o);clear hR1;by_cases e5:mid < en
    ·
     have x5:decide (mid < en) = true:=dT e5;by_cases e6:en < b
     ·
      have x6:decide (en < b) = true:=dT e6;have HC:=Zz (HRb.o R1 wr HR1.o e5 e6);go_wp2_with fail;refine HC.o.mono ?_;rintro e w9 ⟨rfl,hE⟩;have HEnd:=Zz hE;clear hE;go_wp2;go_end0;exact ⟨rfl,HEnd.o⟩
     ·
      have x6:decide (en < b) = false:=dF e6;have HEnd:=Zz (HZb.o R1 wr HR1.o e6);go_wp2;go_end0;exact ⟨rfl,HEnd.o⟩
    ·
     have x5:decide (mid < en) = false:=dF e5;have HEnd:=Zz (HZa.o R1 wr HR1.o e5);go_wp2;go_end0;exact ⟨rfl,HEnd.o⟩
end SortW
namespace SortW
open Go.RowKit Go.Lib B Rd Utf TermPure LinesPure Tx Env Tri SortP Print Cmp Long
theorem sym_calls (L cap:Nat) (hLs:L <= 140737488355328) (g:Nat) (W:World):∀ N:Nat,SymC L cap g W N
 | 0=>fun P A B Q a m b w hN hA0 hB0 _ _ _ _ _ _ _ _=>by omega
 | N + 1=>fun P A B Q a m b w hN hA0 hB0 hL ha hm hb hA hB hsm hS=>by
  by_cases c1:A.length = 1
  ·
   obtain ⟨x,rfl⟩:∃ x,A = [x]:=List.length_eq_one_iff.1 c1
   exact sym_left P B Q x L hL hLs a m b cap ha hm hb hB (hsm x (by simp)) (fun t ht=>hsm t (by simp [ht])) g W w hS
  by_cases c2:B.length = 1
  ·
   obtain ⟨y,rfl⟩:∃ y,B = [y]:=List.length_eq_one_iff.1 c2
   exact sym_right P A Q y L hL hLs a m b cap ha hm hb (by omega) hA (hsm y (by simp)) (fun t ht=>hsm t (by simp [ht])) g W w hS
  by_cases hc:(a + b) / 2 < m
  ·
   exact sym_gen1 L cap hLs g W N (sym_calls L cap hLs g W N) P A B Q a m b w hN hA0 hB0 hL ha hm hb hA hB hsm hS c1 c2 hc
  ·
   exact sym_gen2 L cap hLs g W N (sym_calls L cap hLs g W N) P A B Q a m b w hN hA0 hB0 hL ha hm hb hA hB hsm hS c1 c2 (by omega)
end SortW
namespace SortW
open Go.RowKit Go.Lib B Rd Utf TermPure LinesPure Tx Env Tri SortP Print Cmp Long
def Ch (bs:Nat) (C:List (List Triple)):Prop:=∀ c ∈ C,c.length = bs/\Sorted' c
theorem Ch.flat {bs:Nat}:∀ {C:List (List Triple)},Ch bs C -> C.flatten.length = C.length * bs
 | [],_=>by simp
 | c :: C,h=>by
  rw [List.flatten_cons,Zl,(h c (by simp)).1,Ch.flat (fun d hd=>h d (by simp [hd])),Zc,Nat.add_mul]
  omega
theorem Ch.snoc {bs:Nat} {C:List (List Triple)} {c:List Triple} (h:Ch bs C) (hl:c.length = bs) (hs:Sorted' c):Ch bs (C ++ [c]):=fun d hd=>by
 rcases Zk.1 hd with hd | hd
 ·
  exact h d hd
 ·
  simp at hd
  subst hd
  exact ⟨hl,hs⟩
theorem flat_snoc (C:List (List Triple)) (R:List Triple):(C ++ [R]).flatten.length = C.flatten.length + R.length:=by
 rw [List.flatten_append,Zl,List.flatten_cons,List.flatten_nil,Ze]
theorem perm_mid {P A A' Q l:List Triple} (h:(P ++ (A ++ Q)).Perm l) (h2:A'.Perm A):(P ++ (A' ++ Q)).Perm l:=
 (List.Perm.append_left P (List.Perm.append_right Q h2)).trans h
theorem stable_calls (l:List Triple) (L cap:Nat) (hL:l.length = L) (hLs:L <= 70368744177664) (hsm:∀ t ∈ l,SmallT t) (g:Nat) (W w:World) (hS:SR W g l w) :
  Calls Tryz.prog 152 #[.slice (some ⟨g,0,none⟩) L cap,.int .i64 L,cmpV] w fun e w'=>e = .returned (.tuple #[])/\∃ R,R.Perm l/\Sorted' R/\SR W g R w':=by
 have HSm:Hid (∀ R:List Triple,R.Perm l -> ∀ A:List Triple,(∀ t ∈ A,t ∈ R) -> ∀ t ∈ A,SmallT t):=Zz (fun R hR A hA t ht=>hsm t (hR.mem_iff.1 (hA t ht)));have HL:Hid (∀ R:List Triple,R.Perm l -> R.length = L):=Zz (fun R hR=>hR.length_eq.trans hL);have HS0:=Zz hS;clear hsm hL hS;unfold cmpV;go_enter func152,ntmps152;go_wp2;go_loopw [7,8] (fun va vb wr=>∃ (a b:Nat) (C:List (List Triple)) (T:List Triple),va = .int .i64 a/\vb = .int .i64 b/\a <= L/\b <= L + 20/\Hid (b = a + 20/\C.flatten.length = a/\Ch 20 C/\(C.flatten ++ T).Perm l/\SR W g (C.flatten ++ T) wr)) (fun va _ _=>L - (intOf va).toNat)
 case atStart=>exact ⟨0,20,[],l,rfl,rfl,by omega,by omega,Zz ⟨rfl,rfl,fun c hc=>(by cases hc),by simp,by simpa using HS0.o⟩⟩
 case round =>
  obtain ⟨a,b,C,T,rfl,rfl,haL,hbL,HR⟩:=hrel;clear HS0;by_cases hlt:b <= L
  ·
   have hd:decide (b <= L) = true:=dT hlt;have hlen:=HL.o _ HR.o.2.2.2.1;rw [Zl,HR.o.2.1] at hlen;have hab:a < b:=by have:=HR.o.1;omega
   have HC:=Zz (insertion_calls C.flatten (T.take 20) (T.drop 20) L (by rw [List.take_append_drop];exact HL.o _ HR.o.2.2.2.1) (by omega) a b cap HR.o.2.1.symm (by rw [Zi];have:=HR.o.1;omega) (HSm.o _ HR.o.2.2.2.1 _ (fun t ht=>List.mem_append_right _ (List.mem_of_mem_take ht))) g W wr (by rw [List.take_append_drop];exact HR.o.2.2.2.2));have HNext:Hid (∀ R:List Triple,R.Perm (T.take 20) -> Sorted' R -> (C ++ [R]).flatten.length = b/\Ch 20 (C ++ [R])/\((C ++ [R]).flatten ++ T.drop 20).Perm l/\(C ++ [R]).flatten ++ T.drop 20 = C.flatten ++ (R ++ T.drop 20)):=Zz (fun R hp hs=>by
    have hRl:R.length = 20:=by rw [hp.length_eq,Zi];have:=HR.o.1;omega
    have he:(C ++ [R]).flatten ++ T.drop 20 = C.flatten ++ (R ++ T.drop 20):=by simp
    refine ⟨?_,HR.o.2.2.1.snoc hRl hs,?_,he⟩
    ·
     have:=HR.o.1;have:=HR.o.2.1;rw [flat_snoc];omega
    ·
     rw [he];refine perm_mid ?_ hp;rw [List.take_append_drop];exact HR.o.2.2.2.1)
   clear hlen HR;unfold cmpV at HC;go_wp2_with fail;refine HC.o.mono ?_;rintro e w2 ⟨rfl,R,hp,hs,hS2⟩;have HN:Hid ((C ++ [R]).flatten.length = b/\Ch 20 (C ++ [R])/\((C ++ [R]).flatten ++ T.drop 20).Perm l/\SR W g ((C ++ [R]).flatten ++ T.drop 20) w2):=Zz (by
    obtain ⟨h2,h3,h4,h5⟩:=HNext.o R hp hs;exact ⟨h2,h3,h4,by rw [h5];exact hS2⟩)
   clear hp hs hS2;go_wp2;go_roundw
   case rel=>exact ⟨b,b + 20,C ++ [R],T.drop 20,rfl,by go_num,by omega,by omega,Zz ⟨rfl,HN.o⟩⟩
   case measure=>simp [intOf];omega
  ·
   have hd:decide (b <= L) = false:=dF hlt;have hlen:=HL.o _ HR.o.2.2.2.1;rw [Zl,HR.o.2.1] at hlen;have HC:=Zz (insertion_calls C.flatten T [] L (by rw [Ze];exact HL.o _ HR.o.2.2.2.1) (by omega) a L cap HR.o.2.1.symm (by omega) (HSm.o _ HR.o.2.2.2.1 _ (fun t ht=>List.mem_append_right _ ht)) g W wr (by rw [Ze];exact HR.o.2.2.2.2));have HNext:Hid (∀ R:List Triple,R.Perm T -> Sorted' R -> R.length < 20/\Ch 20 C/\Sorted' R/\(C.flatten ++ R).Perm l):=Zz (fun R hp hs=>by
    refine ⟨by rw [hp.length_eq];have:=HR.o.1;omega,HR.o.2.2.1,hs,?_⟩;exact (List.Perm.append_left _ hp).trans HR.o.2.2.2.1)
   clear hlen HR;unfold cmpV at HC;go_wp2_with fail;refine HC.o.mono ?_;rintro e w2 ⟨rfl,R0,hp,hs,hS2⟩;have HN:Hid (R0.length < 20/\Ch 20 C/\Sorted' R0/\(C.flatten ++ R0).Perm l/\SR W g (C.flatten ++ R0) w2):=Zz (by
    obtain ⟨h1,h2,h3,h4⟩:=HNext.o R0 hp hs;exact ⟨h1,h2,h3,h4,by rw [Ze] at hS2;exact hS2⟩)
   clear hp hs hS2 HNext;go_wp2;go_loopw [6] (fun v6 wr=>∃ (bs:Nat) (C:List (List Triple)) (T:List Triple),v6 = .int .i64 bs/\0 < bs/\bs <= 140737488355328/\Hid (T.length < bs/\Ch bs C/\Sorted' T/\(C.flatten ++ T).Perm l/\SR W g (C.flatten ++ T) wr)) (fun v6 _=>L - (intOf v6).toNat)
   case atStart=>exact ⟨20,C,R0,rfl,by omega,by omega,HN⟩
   case round =>
    obtain ⟨bs,C1,T1,rfl,hbs,hbsL,HR⟩:=hrel;clear HN;by_cases hbl:bs < L
    ·
     have hd2:decide (bs < L) = true:=dT hbl;obtain ⟨b2,hb2⟩:∃ b2,b2 = 2 * bs:=⟨_,rfl⟩;have wb2:IntKind.i64.wrap (2 * (bs:Int)) = (b2:Int):=by rw [Zw];omega
     have wb3:IntKind.i64.wrap ((bs:Int) * 2) = (b2:Int):=by rw [Zw];omega
     have HB2:=Zz hb2;have hb2L:b2 <= 140737488355328:=by omega
     have hbb:bs < b2:=by omega
     have HI0:Hid (b2 = 0 + b2/\([]:List (List Triple)).flatten.length = 0/\Ch b2 []/\Ch bs C1/\(([]:List (List Triple)).flatten ++ (C1.flatten ++ T1)).Perm l/\SR W g (([]:List (List Triple)).flatten ++ (C1.flatten ++ T1)) wr):=Zz ⟨by omega,rfl,fun c hc=>(by cases hc),HR.o.2.1,by simpa using HR.o.2.2.2.1,by simpa using HR.o.2.2.2.2⟩;have HT:Hid (T1.length < bs/\Sorted' T1):=Zz ⟨HR.o.1,HR.o.2.2.1⟩;clear hb2 HR;go_wp2;go_loopw [7,8] (fun va vb wr=>∃ (a b:Nat) (D C':List (List Triple)),va = .int .i64 a/\vb = .int .i64 b/\a <= L/\b <= L + b2/\Hid (b = a + b2/\D.flatten.length = a/\Ch b2 D/\Ch bs C'/\(D.flatten ++ (C'.flatten ++ T1)).Perm l/\SR W g (D.flatten ++ (C'.flatten ++ T1)) wr)) (fun va _ _=>L - (intOf va).toNat)
     case atStart=>exact ⟨0,b2,[],C1,rfl,rfl,by omega,by omega,HI0⟩
     case round =>
      obtain ⟨a,b,D,C',rfl,rfl,haL,hbL,HR⟩:=hrel;clear HI0;have hlen:=HL.o _ HR.o.2.2.2.2.1;rw [Zl,Zl,HR.o.2.1,HR.o.2.2.2.1.flat] at hlen;by_cases hle:b <= L
      ·
       have hd3:decide (b <= L) = true:=dT hle;obtain ⟨c1,c2,C2,hC2⟩:∃ c1 c2 C2,C' = c1 :: c2 :: C2:=by
        have h1:=HR.o.1;have h2:=HT.o.1;have h3:=HB2.o
        match C' with
        | []=>simp at hlen;omega
        | [c]=>simp at hlen;omega
        | c1 :: c2 :: C2=>exact ⟨c1,c2,C2,rfl⟩
       subst hC2;have hc1:=HR.o.2.2.2.1 c1 (by simp);have hc2:=HR.o.2.2.2.1 c2 (by simp);obtain ⟨m1,hm1⟩:∃ m1,m1 = a + bs:=⟨_,rfl⟩;have wm:IntKind.i64.wrap ((a:Int) + (bs:Int)) = (m1:Int):=by rw [Zw];omega
       have hab:a < b:=by have:=HR.o.1;omega
       have wbn:IntKind.i64.wrap ((b:Int) + (b2:Int)) = ((b + b2:Nat):Int):=by rw [Zw];omega
       have he:D.flatten ++ ((c1 :: c2 :: C2).flatten ++ T1) = D.flatten ++ (c1 ++ (c2 ++ (C2.flatten ++ T1))):=by simp
       have HP:Hid ((D.flatten ++ (c1 ++ (c2 ++ (C2.flatten ++ T1)))).Perm l/\SR W g (D.flatten ++ (c1 ++ (c2 ++ (C2.flatten ++ T1)))) wr):=Zz (by rw [<- he];exact HR.o.2.2.2.2);have HC:=Zz (sym_calls L cap (by omega) g W (c1.length + c2.length) D.flatten c1 c2 (C2.flatten ++ T1) a m1 b wr (lR _) (by omega) (by omega) (HL.o _ HP.o.1) HR.o.2.1.symm (by omega) (by have:=HR.o.1;have:=HB2.o;omega) hc1.2 hc2.2 (HSm.o _ HP.o.1 _ (fun t ht=>by rcases Zk.1 ht with h | h <;> simp [h])) HP.o.2);have HNext:Hid (∀ R:List Triple,R.Perm (c1 ++ c2) -> Sorted' R -> ∀ w2,SR W g (D.flatten ++ (R ++ (C2.flatten ++ T1))) w2 -> ((D ++ [R]).flatten.length = b/\Ch b2 (D ++ [R])/\Ch bs C2/\((D ++ [R]).flatten ++ (C2.flatten ++ T1)).Perm l/\SR W g ((D ++ [R]).flatten ++ (C2.flatten ++ T1)) w2)):=Zz (fun R hp hs w2 hw2=>by
        have hRl:R.length = b2:=by rw [hp.length_eq,Zl,hc1.1,hc2.1];have:=HB2.o;omega
        have he2:(D ++ [R]).flatten ++ (C2.flatten ++ T1) = D.flatten ++ (R ++ (C2.flatten ++ T1)):=by simp
        refine ⟨?_,HR.o.2.2.1.snoc hRl hs,fun c hc=>HR.o.2.2.2.1 c (by simp [hc]),?_,by rw [he2];exact hw2⟩
        ·
         have:=HR.o.1;have:=HR.o.2.1;rw [flat_snoc];omega
        ·
         rw [he2];refine perm_mid ?_ hp;rw [Za];exact HP.o.1)
       clear hlen HR hc1 hc2 hm1 he HP;unfold cmpV at HC;go_wp2_with fail;refine HC.o.mono ?_;rintro e w3 ⟨rfl,R,hp,hs,hS2⟩;have HN:=Zz (HNext.o R hp hs w3 hS2);clear hp hs hS2 HNext;go_wp2;go_roundw
       case rel=>exact ⟨b,b + b2,D ++ [R],C2,rfl,by go_num,by omega,by omega,Zz ⟨rfl,HN.o⟩⟩
       case measure=>simp [intOf];omega
      ·
       have hd3:decide (b <= L) = false:=dF hle;obtain ⟨m1,hm1⟩:∃ m1,m1 = a + bs:=⟨_,rfl⟩;have wm:IntKind.i64.wrap ((a:Int) + (bs:Int)) = (m1:Int):=by rw [Zw];omega
       have hC2:C' = [] \/ ∃ c,C' = [c]:=by
        have h1:=HR.o.1;have h3:=HB2.o
        match C' with
        | []=>exact .inl rfl
        | [c]=>exact .inr ⟨c,rfl⟩
        | c1 :: c2 :: C2 =>
         simp [Nat.add_mul] at hlen;omega
       by_cases hml:m1 < L
       ·
        have hd4:decide (m1 < L) = true:=dT hml;obtain ⟨c,rfl⟩:∃ c,C' = [c]:=by
         rcases hC2 with rfl | h
         ·
          have h2:=HT.o.1;simp at hlen;omega
         ·
          exact h
        have hc:=HR.o.2.2.2.1 c (by simp);simp at hlen;have he:D.flatten ++ ([c].flatten ++ T1) = D.flatten ++ (c ++ (T1 ++ [])):=by simp
        have HP:Hid ((D.flatten ++ (c ++ (T1 ++ []))).Perm l/\SR W g (D.flatten ++ (c ++ (T1 ++ []))) wr):=Zz (by rw [<- he];exact HR.o.2.2.2.2);have HC:=Zz (sym_calls L cap (by omega) g W (c.length + T1.length) D.flatten c T1 [] a m1 L wr (lR _) (by omega) (by omega) (HL.o _ HP.o.1) HR.o.2.1.symm (by omega) (by omega) hc.2 HT.o.2 (HSm.o _ HP.o.1 _ (fun t ht=>by rcases Zk.1 ht with h | h <;> simp [h])) HP.o.2);have HNext:Hid (∀ R:List Triple,R.Perm (c ++ T1) -> Sorted' R -> ∀ w2,SR W g (D.flatten ++ (R ++ [])) w2 -> (R.length < b2/\Ch b2 D/\Sorted' R/\(D.flatten ++ R).Perm l/\SR W g (D.flatten ++ R) w2)):=Zz (fun R hp hs w2 hw2=>by
         refine ⟨by rw [hp.length_eq,Zl,hc.1];have:=HB2.o;have:=HT.o.1;omega,HR.o.2.2.1,hs,?_,by simpa using hw2⟩;have:=HP.o.1;rw [Ze] at this;exact (List.Perm.append_left _ hp).trans this)
        clear hlen HR hc hm1 he HP hC2;unfold cmpV at HC;go_wp2_with fail;refine HC.o.mono ?_;rintro e w3 ⟨rfl,R,hp,hs,hS2⟩;have HN:=Zz (HNext.o R hp hs w3 hS2);clear hp hs hS2 HNext;go_wp2;refine ⟨⟨b2,D,R,by go_num,by omega,by omega,HN⟩,?_⟩;simp [intOf];omega
       ·
        have hd4:decide (m1 < L) = false:=dF hml;have HN:Hid (∃ T,T.length < b2/\Ch b2 D/\Sorted' T/\(D.flatten ++ T).Perm l/\SR W g (D.flatten ++ T) wr):=Zz (by
         have h2:=HT.o.1;rcases hC2 with rfl | ⟨c,rfl⟩
         ·
          exact ⟨T1,by omega,HR.o.2.2.1,HT.o.2,by simpa using HR.o.2.2.2.2.1,by simpa using HR.o.2.2.2.2.2⟩
         ·
          have hc:=HR.o.2.2.2.1 c (by simp);simp at hlen;have h0:T1 = []:=Zn (by omega);have h1:=HR.o.2.2.2.2.1;have h3:=HR.o.2.2.2.2.2;rw [h0] at h1 h3;exact ⟨c,by omega,HR.o.2.2.1,hc.2,by simpa using h1,by simpa using h3⟩)
        clear hlen HR hm1 hC2;obtain ⟨T,hT⟩:=HN.o;have HN2:=Zz hT;clear hT HN;go_wp2;refine ⟨⟨b2,D,T,by go_num,by omega,by omega,HN2⟩,?_⟩;simp [intOf];omega
    ·
     have hd2:decide (bs < L) = false:=dF hbl;have HV:Hid (∃ R,R.Perm l/\Sorted' R/\SR W g R wr):=Zz (by
      obtain ⟨h1,h2,h3,h4,h5⟩:=HR.o;have hlen:=HL.o _ h4;rw [Zl,h2.flat] at hlen
      match C1,h2,h4,h5,hlen with
      | [],_,h4,h5,_=>exact ⟨T1,by simpa using h4,h3,by simpa using h5⟩
      | [c],h2,h4,h5,hlen =>
       simp at hlen;have h0:T1 = []:=Zn (by omega);rw [h0] at h4 h5;exact ⟨c,by simpa using h4,(h2 c (by simp)).2,by simpa using h5⟩
      | c1 :: c2 :: C2,_,_,_,hlen =>
       simp [Nat.add_mul] at hlen;omega)
     clear HR;go_wp2;go_end0;exact ⟨rfl,HV.o⟩
theorem sortStable_calls (l:List Triple) (L cap:Nat) (hL:l.length = L) (hLs:L <= 70368744177664) (hsm:∀ t ∈ l,SmallT t) (g:Nat) (W w:World) (hS:SR W g l w) :
  Calls Tryz.prog 118 #[.slice (some ⟨g,0,none⟩) L cap,cmpV] w fun e w'=>e = .returned (.tuple #[])/\∃ R,R.Perm l/\Sorted' R/\SR W g R w':=by
 have HC:=Zz (stable_calls l L cap hL hLs hsm g W w hS);clear hL hsm hS;unfold cmpV at *;go_enter func118,ntmps118;go_wp2_with fail;refine HC.o.mono ?_;rintro e w2 ⟨rfl,hR⟩;have HR:=Zz hR;clear hR;go_wp2;go_end0;exact ⟨rfl,HR.o⟩
end SortW
namespace SortW
open Go.RowKit Go.Lib B Rd Utf TermPure LinesPure Tx Env Tri SortP Print Cmp Long
def zeroV:Value:=.agg #[.int .i64 0,.string ⟨#[]⟩,.string ⟨#[]⟩,.int .i64 0,.string ⟨#[]⟩,.string ⟨#[]⟩,.int .i64 0,.string ⟨#[]⟩,.string ⟨#[]⟩]
theorem info_tri:(Tryz.prog.info? 36).map (fun i=>(i.zero,i.size,i.bytes)) = some (some zeroV,triK.sz,120):=by kernel_rfl
theorem any_tri:∀ (w:World) (ok ok':Nat -> Prop) (x:Triple) (cs:List Value),triK.M w ok x cs -> triK.M w ok' x cs:=fun _ _ _ _ _ h=>h
def TT:Nat -> Prop:=fun _=>True
theorem SR.of_own {w:World} {base:Nat} {ok:Nat -> Prop} {v:Value} {l:List Triple} (h:triK.own 36 w base ok v l) (hp:0 < l.length) :
  ∃ g cap,v = .slice (some ⟨g,0,none⟩) l.length cap/\base <= g/\g < w.heap.size/\l.length <= cap/\SR w g l w:=by
 obtain ⟨_,cells,ho,hr⟩:=h;have ho':=ho;rcases ho'.2 with ⟨_,h0⟩ | ⟨g,cap,cur,rfl,hg,hh,hnc,hcm,hcs,htake⟩
 ·
  omega
 ·
  have hlt:g < w.heap.size:=(Array.getElem?_eq_some_iff.1 hh).1;refine ⟨g,cap,rfl,hg,hlt,hnc,World.grownBy.refl _ _,fun i hi=>?_,fun j hj=>?_⟩
  ·
   obtain ⟨hc,_⟩:=hr i l[i] (Zg hi);refine C9.of fun j u hu=>?_
   rw [<- hc] at hu;have:=ho.cells rfl _ _ (Kd.take_drop_get hu);rw [add_plain] at this;exact this
  ·
   unfold World.frozen?;dsimp only;rw [hh];simp
theorem SR.own {W w:World} {g cap:Nat} {l:List Triple} (h:SR W g l w) (hp:0 < l.length) (hf:∀ t ∈ l,FitsW3 t) (hl:l.length <= 140737488355328) (hc:l.length <= cap) (hcm:cap <= maxLen) (ok:Nat -> Prop) (hok:ok g) :
  triK.sl.M w ok l [.slice (some ⟨g,0,none⟩) l.length cap]:=by
 refine ⟨some ⟨g,0,none⟩,cap,rfl,hc,⟨hl,hcm⟩,fun h=>(by cases h),fun i x hx=>?_⟩;obtain ⟨hi,rfl⟩:=List.getElem?_eq_some_iff.1 hx;refine ⟨_,triL l[i],rfl,hok,⟨rfl,hf _ (Zm hi)⟩,fun j u hu=>?_⟩;rw [add_plain];obtain ⟨c0,c1,c2,c3,c4,c5,c6,c7,c8⟩:=h.cells i hi;have hj:j < 9:=(List.getElem?_eq_some_iff.1 hu).1
 match j,hj with
 | 0,_=>cases hu;exact c0
 | 1,_=>cases hu;exact c1
 | 2,_=>cases hu;exact c2
 | 3,_=>cases hu;exact c3
 | 4,_=>cases hu;exact c4
 | 5,_=>cases hu;exact c5
 | 6,_=>cases hu;exact c6
 | 7,_=>cases hu;exact c7
 | 8,_=>cases hu;exact c8
theorem clone_calls (l:List Triple) (A:Option Addr) (c:Nat) (w:World) (HL:triK.sl.M w (fun _=>True) l [.slice A l.length c]) (hb:l.length * 120 <= 140737488355328) :
  Calls Tryz.prog 65 #[.slice A l.length c] w fun e w'=>(∃ v,e = .returned v/\triK.own 36 w' w.heap.size TT v l)/\Below w.heap.size w w':=by
 have HM:=Zz HL;obtain ⟨A',c',he,h1,h2,h3,hr⟩:=HL;obtain ⟨rfl,rfl⟩:A = A'/\c = c':=by simpa using he
 cases A with
 | none =>
  have hc:=h3 rfl;have hl0:l = []:=Zn (by omega);subst hl0 hc;have HO:Hid (triK.own 36 w w.heap.size TT (.slice none 0 0) []):=Zz (Kd.own_nil _ _ _ _ _);clear he h1 h2 h3 hr HM hb;simp only [List.length_nil];have hq:∀ w,Sem.run Tryz.prog (binOp BinOp.eql 22 (Value.slice none 0 0) (Value.slice none 0 0)) w = .ok (.bool true) w:=fun w=>run_eql_nil_slice w 22 36 none 0 0 0 0 underlying22
  go_enter func65,ntmps65;go_wp2;go_ret;exact ⟨⟨_,rfl,HO.o⟩,bR _ _⟩
 | some ad =>
  have b0:Below w.heap.size w (w.alloc (.cells #[] 36)):=bel_alloc (bR _ _) _;have HO0:Hid (triK.own 36 (w.alloc (.cells #[] 36)) w.heap.size TT (.slice (some ⟨w.heap.size,0,none⟩) 0 0) []):=
   Zz (Kd.own_block (cells:=[]) (xs:=[]) (lR _) (Kd.heap_new _ _) rfl (by simp) (fun i x h=>by simp at h))
  have HR0:=Zz (Kd.M_below HM.o b0);clear he h1 h2 h3 hr;have hq:∀ w,Sem.run Tryz.prog (binOp BinOp.eql 22 (Value.slice (some ad) l.length c) (Value.slice none 0 0)) w = .ok (.bool false) w:=fun w=>Lib.run_eql_slice_nil w 22 36 (some ad) l.length c 0 0 underlying22
  go_enter func65,ntmps65;go_wp2_with (at_builtin;refine Kd.own_app triK w.heap.size rfl (.tmp 5) (.tmp 6) 22 36 zeroV 120 rfl underlying22 info_tri rfl (by decide) _ [] l (some ad) c TT rfl rfl HO0.o (.inr ⟨HR0.o,any_tri⟩) b0 (by simp) (by simp;omega) ?_;intro v1 w1 ho1 hb1 hg1 hv1;clear hg1 hv1;rw [Zf] at ho1;have HO1:=Zz ho1;have HB1:=Zz hb1;clear ho1 hb1 b0)
  go_wp2;go_ret;exact ⟨⟨_,rfl,HO1.o⟩,HB1.o⟩
end SortW
namespace SortW
open Go.RowKit Go.Lib B Rd Utf TermPure LinesPure Tx Env Tri SortP Print Cmp Long
theorem go_snoc:∀ (l:List Triple) (x y:Triple),compactT.go x (l ++ [y]) = compactT.go x l ++ (if cmpT y ((x :: l).getLast (by simp)) = 0 then [] else [y])
 | [],x,y=>by
  rw [Zf,compactT.go,compactT.go,List.getLast_singleton]
  split <;> simp [compactT.go]
 | z :: l,x,y=>by
  have ih:=go_snoc l z y
  rw [List.cons_append,compactT.go,compactT.go,List.getLast_cons (by simp),ih]
  split
  ·
   rfl
  ·
   rfl
theorem compact_take (R : List Triple) (j : Nat) (h1 : 1 <= j) (hj : j < R.length) : compactT (R.take (j + 1)) = compactT (R.take j) ++ (if cmpT R[j] (R[j - 1]'(by omega)) = 0 then [] else [R[j]]) := by
  rw [Zt hj]
  obtain ⟨x, l, hxl⟩ : ∃ x l, R.take j = x :: l := by
    cases h : R.take j with
    | nil => rw [List.take_eq_nil_iff] at h; rcases h with h | h; · omega
             · rw [h] at hj; simp at hj
    | cons x l => exact ⟨x, l, rfl⟩
  have hlast : (x :: l).getLast (by simp) = R[j - 1]'(by omega) := by
    have hl : (R.take j).length = j := by rw [Zi]; omega
    have h2 : (R.take j).getLast (by rw [hxl]; simp) = R[j - 1]'(by omega) := by
      rw [List.getLast_eq_getElem, List.getElem_take]
      congr 1
      omega
    rw [<- h2]
    congr 1
    exact hxl.symm
  rw [hxl, List.cons_append, compactT, compactT, go_snoc, hlast]
  rfl
theorem compact_one (R:List Triple) (h:0 < R.length):compactT (R.take 1) = R.take 1:=by
 cases R with
 | nil=>simp at h
 | cons x l=>simp [compactT,compactT.go]
theorem compact_same (R:List Triple):∀ j,1 <= j -> j <= R.length -> (∀ i (h:i < R.length),1 <= i -> i < j -> cmpT R[i] (R[i - 1]'(by omega)) ≠ 0) -> compactT (R.take j) = R.take j
 | 0,h,_,_=>by omega
 | 1,_,h,_=>compact_one R (by omega)
 | j + 2,_,h,hne=>by
  rw [compact_take R (j + 1) (by omega) (by omega),compact_same R (j + 1) (by omega) (by omega) (fun i hi h1 h2=>hne i hi h1 (by omega)),if_neg (hne (j + 1) (by omega) (by omega) (by omega))]
  exact (Zt (by omega)).symm
theorem compact_len (R:List Triple):∀ j,j <= R.length -> (compactT (R.take j)).length <= j
 | 0,_=>by simp [compactT]
 | 1,h=>by rw [compact_one R (by omega),Zi];omega
 | j + 2,h=>by
  have:=compact_len R (j + 1) (by omega)
  rw [compact_take R (j + 1) (by omega) (by omega),Zl]
  split <;> simp <;> omega
def eqV:Value:=.func (.func 121) #[] #[]
theorem eq_calls (a b:Triple) (ha:SmallT a) (hb:SmallT b) (w:World):Calls Tryz.prog 121 #[Ref5.tripleV a,Ref5.tripleV b] w fun e w'=>e = .returned (.bool (decide (cmpT a b = 0)))/\Below w.heap.size w w':=by
 have HX:=Zz (box18 w a b ⟨_,bR _ _⟩);have HC:=Zz (fun w=>cmp_calls a b ha hb w);have HBe:=Zz (bel_alloc (bel_alloc (bR w.heap.size w) (.cells #[.int .i64 a.s.kind,.string (mkS a.s.text),.string (mkS a.s.extra),.int .i64 a.p.kind,.string (mkS a.p.text),.string (mkS a.p.extra),.int .i64 a.o.kind,.string (mkS a.o.text),.string (mkS a.o.extra)] 36)) (.cells #[.int .i64 b.s.kind,.string (mkS b.s.text),.string (mkS b.s.extra),.int .i64 b.p.kind,.string (mkS b.p.text),.string (mkS b.p.extra),.int .i64 b.o.kind,.string (mkS b.o.text),.string (mkS b.o.extra)] 36));generalize cmpT a b = v at *;obtain ⟨⟨sk,sx,se⟩,⟨pk,px,pe⟩,⟨ok,ox,oe⟩⟩:=a;obtain ⟨⟨sk',sx',se'⟩,⟨pk',px',pe'⟩,⟨ok',ox',oe'⟩⟩:=b;unfold Ref5.tripleV at *;dsimp only at *;clear ha hb;have HV:Hid ((v == 0) = decide (v = 0)):=Zz (by by_cases h:v = 0 <;> simp [h]);by_cases hv:v = 0
 ·
  subst hv;go_enter func121,ntmps121;go_wp2_with fail;refine (HC.o _).mono ?_;rintro e w2 ⟨rfl,hb⟩;have HB:=Zz (bel_step HBe.o hb);clear hb;go_wp2;go_ret;exact ⟨rfl,HB.o⟩
 ·
  have hn:(v == 0) = false:=by rw [Zb];exact hv
  have HD:Hid (decide (v = 0) = false):=Zz (dF hv);clear hv;go_enter func121,ntmps121;go_wp2_with fail;refine (HC.o _).mono ?_;rintro e w2 ⟨rfl,hb⟩;have HB:=Zz (bel_step HBe.o hb);clear hb;go_wp2;go_ret;exact ⟨by rw [HD.o];rfl,HB.o⟩
end SortW
namespace SortW
open Go.RowKit Go.Lib B Rd Utf TermPure LinesPure Tx Env Tri SortP Print Cmp Long
theorem setCells_grown (g:Nat):∀ (vs:List Value) (o:Nat) (w:World),w.grownBy (w.setCells g o vs) (some g)
 | [],_,w=>World.grownBy.refl _ _
 | v :: vs,o,w=>by
  rw [World.setCells]
  exact (grown_setCell w ⟨g,o,none⟩ v).trans (setCells_grown g vs (o + 1) _)
theorem SR.set {W w:World} {g:Nat} {l:List Triple} (h:SR W g l w) (i:Nat) (hi:i < l.length) (x:Triple):SR W g (l.set i x) (put9 w g (i * 9) x):=by
 refine ⟨h.grown.trans (put9_grown _ _ _ _),fun k hk=>?_,fun q hq=>?_⟩
 ·
  have hk':k < l.length:=by rw [List.length_set] at hk;exact hk
  by_cases e:k = i
  ·
   subst e;rw [List.getElem_set_self];exact put9_same (h.cells k hk') _
  ·
   rw [List.getElem_set_ne (fun h=>e h.symm)];have hc:=h.cells k hk';have far:∀ d,d < 9 -> (k * 9 + d < i * 9 \/ i * 9 + 9 <= k * 9 + d):=fun d hd=>by omega
   exact ⟨(put9_other _ _ _ _ _ (far 0 (by omega))).trans hc.c0,(put9_other _ _ _ _ _ (far 1 (by omega))).trans hc.c1,(put9_other _ _ _ _ _ (far 2 (by omega))).trans hc.c2,
    (put9_other _ _ _ _ _ (far 3 (by omega))).trans hc.c3,(put9_other _ _ _ _ _ (far 4 (by omega))).trans hc.c4,(put9_other _ _ _ _ _ (far 5 (by omega))).trans hc.c5,
    (put9_other _ _ _ _ _ (far 6 (by omega))).trans hc.c6,(put9_other _ _ _ _ _ (far 7 (by omega))).trans hc.c7,(put9_other _ _ _ _ _ (far 8 (by omega))).trans hc.c8⟩
 ·
  rw [put9_frozen];rw [List.length_set] at hq;exact h.free q hq
theorem zeroCells_len (n:Nat):(Builtin.zeroCells zeroV.cells n).toList.length = n * 9:=by
 simp [Builtin.zeroCells,zeroV,Value.cells]
theorem zeroCells_one (n:Nat):∀ v ∈ (Builtin.zeroCells zeroV.cells n).toList,v.oneCell' = true:=by
 intro v hv;have key:∀ k:Nat,k < 9 -> ((zeroV.cells)[k]!).oneCell' = true:=by decide
 simp [Builtin.zeroCells] at hv;obtain ⟨i,hi,rfl⟩:=hv;exact key _ (Nat.mod_lt _ (by decide))
theorem run_clear (w:World) (ty:TypeId) (b o n c:Nat) (hn:0 < n) (hc:∀ j,j < n * 9 -> (w.cell? ⟨b,o + j,none⟩).isSome = true) (hf:∀ j,j < n * 9 -> w.frozen? ⟨b,o + j,none⟩ = false) :
  (Builtin.clear_ #[22] ty #[.slice (some ⟨b,o,none⟩) n c]).run Tryz.prog w = .ok (.tuple #[]) (w.setCells b o (Builtin.zeroCells zeroV.cells n).toList):=by
 have hv:∀ w,(zeroValue 36).run Tryz.prog w = .ok zeroV w:=zeroValue36;have hst:=run_storeCells_cells (P:=Tryz.prog) b o (Builtin.zeroCells zeroV.cells n).toList 0 w (by rw [zeroCells_len];simpa using hc) (by rw [zeroCells_len];simpa using hf) (zeroCells_one n);simp only [Nat.add_zero] at hst;obtain ⟨m,rfl⟩:∃ m,n = m + 1:=⟨n - 1,by omega⟩;simp only [Builtin.clear_];simp [run_underlying underlying22,hv,hst]
end SortW
namespace SortW
open Go.RowKit Go.Lib B Rd Utf TermPure LinesPure Tx Env Tri SortP Print Cmp Long
theorem run_cutk (w:World) (g L cap k:Nat) (hk:k < L) (hc:L <= cap):(Instr.slice 22 (.slice (some ⟨g,0,none⟩) L cap) (some (.int .i64 (k:Int))) none none).run Tryz.prog w = .ok (.slice (some ⟨g,k * 9,none⟩) (L - k) (cap - k)) w:=by
 have hu:(Tryz.prog).underlying 22 = some (.slice ((Tryz.prog).elem 22)):=by
  have:=underlying22;simp [Program.elem,this]
 have hs:∀ w,(sizeOf 36).run Tryz.prog w = .ok 9 w:=sizeOf36;have he:(Tryz.prog).elem 22 = 36:=by simp [Program.elem,underlying22]
 rw [run_slice_l w _ _ L cap hu .i64 (k:Int) (by omega) (by omega),he,hs];have:¬ cap = k:=by omega
 simp [sliced,Result.andThen,this,Addr.add_lit]
theorem run_takek (w:World) (g L cap k:Nat) (hk:k <= L) (hk0:0 < L) (hc:L <= cap):(Instr.slice 22 (.slice (some ⟨g,0,none⟩) L cap) none (some (.int .i64 (k:Int))) none).run Tryz.prog w = .ok (.slice (some ⟨g,0,none⟩) k cap) w:=by
 have hu:(Tryz.prog).underlying 22 = some (.slice ((Tryz.prog).elem 22)):=by
  have:=underlying22;simp [Program.elem,this]
 have hs:∀ w,(sizeOf 36).run Tryz.prog w = .ok 9 w:=sizeOf36;have he:(Tryz.prog).elem 22 = 36:=by simp [Program.elem,underlying22]
 rw [run_slice_h w _ _ L cap hu .i64 (k:Int) (by omega) (by omega),he,hs];have:¬ cap = 0:=by omega
 simp [sliced,Result.andThen,this,Addr.add_lit]
theorem setCells_frozen (g:Nat):∀ (vs:List Value) (o:Nat) (w:World) (a:Addr),(w.setCells g o vs).frozen? a = w.frozen? a
 | [],_,_,_=>rfl
 | v :: vs,o,w,a=>by
  rw [World.setCells,setCells_frozen g vs (o + 1) _ a,World.frozen?_setCell]
theorem setCells_far (g:Nat):∀ (vs:List Value) (o:Nat) (w:World) (q:Nat),q < o -> (w.setCells g o vs).cell? ⟨g,q,none⟩ = w.cell? ⟨g,q,none⟩
 | [],_,_,_,_=>rfl
 | v :: vs,o,w,q,h=>by
  rw [World.setCells,setCells_far g vs (o + 1) _ q (by omega)]
  rw [Zo _ _ _ _ (by simp;try omega)]
theorem take_set_lt (l:List Triple) (k:Nat) (x:Triple) (hk:k < l.length):(l.set k x).take (k + 1) = l.take k ++ [x]:=by
 rw [Zt (by simpa using hk),List.getElem_set_self,List.take_set_of_le (lR k)]
structure CI (R l':List Triple) (L k j:Nat):Prop where
 len:l'.length = L
 head:l'.take k = compactT (R.take j)
 tail:∀ q,k <= q -> l'[q]? = R[q]?
theorem CI.start {R:List Triple} {L k:Nat} (hL:R.length = L) (h1:1 <= k) (hk:k < L) (hne:∀ i (h:i < R.length),1 <= i -> i < k -> cmpT R[i] (R[i - 1]'(by omega)) ≠ 0) (he:cmpT (R[k]'(by omega)) (R[k - 1]'(by omega)) = 0):CI R R L k (k + 1):=
 ⟨hL,by rw [compact_take R k h1 (by omega),if_pos he,Ze,compact_same R k h1 (by omega) hne],fun q _=>rfl⟩
theorem CI.same {R l':List Triple} {L k j:Nat} (h:CI R l' L k j) (hL:R.length = L) (h1:1 <= j) (hj:j < L) (he:cmpT (R[j]'(by omega)) (R[j - 1]'(by omega)) = 0):CI R l' L k (j + 1):=
 ⟨h.len,by rw [compact_take R j h1 (by omega),if_pos he,Ze];exact h.head,h.tail⟩
theorem CI.put {R l':List Triple} {L k j:Nat} (h:CI R l' L k j) (hL:R.length = L) (h1:1 <= j) (hj:j < L) (hk:k < L) (he:¬ cmpT (R[j]'(by omega)) (R[j - 1]'(by omega)) = 0):CI R (l'.set k (R[j]'(by omega))) L (k + 1) (j + 1):=
 ⟨by rw [List.length_set];exact h.len,by rw [compact_take R j h1 (by omega),if_neg he,take_set_lt _ _ _ (by rw [h.len];exact hk),h.head],fun q hq=>by
  rw [List.getElem?_set_ne (by omega)];exact h.tail q (by omega)⟩
theorem compact_calls (R:List Triple) (L cap:Nat) (hL:R.length = L) (hc:L <= cap) (hLs:L <= 70368744177664) (hcM:cap <= maxLen) (hsm:∀ t ∈ R,SmallT t) (g:Nat) (W w:World) (hS:SR W g R w) :
  Calls Tryz.prog 120 #[.slice (some ⟨g,0,none⟩) L cap,eqV] w fun e w'=>e = .returned (.slice (some ⟨g,0,none⟩) (compactT R).length cap)/\SR W g (compactT R) w':=by
 have HSm:Hid (∀ j (h:j < R.length),SmallT R[j]):=Zz (fun j h=>hsm _ (Zm h));have HL:Hid (R.length = L):=Zz hL;have HS0:=Zz hS;by_cases hL2:L < 2
 ·
  have hd:decide (L < 2) = true:=dT hL2;have HE:Hid (compactT R = R):=Zz (by
   rcases R with _ | ⟨a,_ | ⟨b,R⟩⟩
   ·
    rfl
   ·
    rfl
   ·
    simp at hL;omega)
  rw [HE.o];have HV:Hid (SR W g R w):=Zz hS;clear hS hsm hL HE;unfold eqV;go_enter func120,ntmps120;go_wp2;go_ret;exact ⟨by rw [HL.o];rfl,HV.o⟩
 have hd:decide (L < 2) = false:=dF hL2;clear hS hsm hL;unfold eqV;go_enter func120,ntmps120;go_wp2;go_loopw [5] (fun vk wr=>∃ k:Nat,vk = .int .i64 k/\1 <= k/\k <= L/\Hid ((∀ i (h:i < R.length),1 <= i -> i < k -> cmpT R[i] (R[i - 1]'(by omega)) ≠ 0)/\SR W g R wr)) (fun vk _=>L - (intOf vk).toNat)
 case atStart=>exact ⟨1,by go_num,by omega,by omega,Zz ⟨fun i h h1 h2=>by omega,HS0.o⟩⟩
 case round =>
  obtain ⟨k,rfl,hk1,hkL,HR⟩:=hrel;clear HS0;by_cases hlt:k < L
  ·
   have hdk:decide (k < L) = true:=dT hlt;obtain ⟨kp,hkp⟩:∃ kp,kp = k - 1:=⟨_,rfl⟩;have hwk:IntKind.i64.wrap ((k:Int) - 1) = (kp:Int):=by rw [Zw];omega
   have jk:(k:Int) < (L:Int):=by omega
   have jkp:(kp:Int) < (L:Int):=by omega
   obtain ⟨x,hx⟩:∃ x,x = R[k]'(by rw [HL.o];exact hlt):=⟨_,rfl⟩;obtain ⟨y,hy⟩:∃ y,y = R[k - 1]'(by rw [HL.o];omega):=⟨_,rfl⟩;have hcx:=HR.o.2.cells k (by rw [HL.o];exact hlt);have hcy:=HR.o.2.cells kp (by rw [HL.o];omega);rw [show R[kp]'(by rw [HL.o];omega) = y by rw [hy];congr 1] at hcy;rw [<- hx] at hcx;have hgl:g < wr.heap.size:=hcx.lt;have HBk:Hid (∀ w2,Below wr.heap.size wr w2 -> SR W g R w2):=Zz (fun w2 hb=>HR.o.2.below hgl hb);have HCC:=Zz (fun w=>eq_calls x y (by rw [hx];exact HSm.o _ _) (by rw [hy];exact HSm.o _ _) w);by_cases hv:cmpT x y = 0
   ·
    have HC:Hid (∀ w,Calls Tryz.prog 121 #[Ref5.tripleV x,Ref5.tripleV y] w fun e w'=>e = .returned (.bool true)/\Below w.heap.size w w'):=Zz (fun w=>by
     have:=HCC.o w
     rwa [dT hv] at this)
    have HI0:Hid (CI R R L k (k + 1)):=Zz (CI.start HL.o hk1 hlt HR.o.1 (by rw [<- hx,<- hy];exact hv));clear HCC hv hx hy hkp;obtain ⟨n,hn⟩:∃ n,n = L - k:=⟨_,rfl⟩;obtain ⟨c2,hc2⟩:∃ c2,c2 = cap - k:=⟨_,rfl⟩;have HSl:∀ w,(Instr.slice 22 (.slice (some ⟨g,0,none⟩) L cap) (some (.int .i64 (k:Int))) none none).run Tryz.prog w = .ok (.slice (some ⟨g,k * 9,none⟩) n c2) w:=fun w=>by rw [hn,hc2];exact run_cutk w g L cap k hlt hc
    have HN:=Zz hn;have hnL:k + n <= L:=by omega
    clear hc2 hn;obtain ⟨⟨sk,sx,se⟩,⟨pk,px,pe⟩,⟨ok,ox,oe⟩⟩:=x;obtain ⟨⟨sk',sx',se'⟩,⟨pk',px',pe'⟩,⟨ok',ox',oe'⟩⟩:=y;have x0:=fun p=>(hcx.bel p).c0
    have x1:=fun p=>(hcx.bel p).c1
    have x2:=fun p=>(hcx.bel p).c2
    have x3:=fun p=>(hcx.bel p).c3
    have x4:=fun p=>(hcx.bel p).c4
    have x5:=fun p=>(hcx.bel p).c5
    have x6:=fun p=>(hcx.bel p).c6
    have x7:=fun p=>(hcx.bel p).c7
    have x8:=fun p=>(hcx.bel p).c8
    have y0:=fun p=>(hcy.bel p).c0
    have y1:=fun p=>(hcy.bel p).c1
    have y2:=fun p=>(hcy.bel p).c2
    have y3:=fun p=>(hcy.bel p).c3
    have y4:=fun p=>(hcy.bel p).c4
    have y5:=fun p=>(hcy.bel p).c5
    have y6:=fun p=>(hcy.bel p).c6
    have y7:=fun p=>(hcy.bel p).c7
    have y8:=fun p=>(hcy.bel p).c8
    dsimp only at x0 x1 x2 x3 x4 x5 x6 x7 x8 y0 y1 y2 y3 y4 y5 y6 y7 y8;unfold Ref5.tripleV at HC;dsimp only at HC;go_upto_region 6 with fail
    refine QT.region_all (by kernel_rfl) (by kernel_rfl) ?_
    iterate 10 (go_big_quiet_step (fail))
    go_big_quiet_step (exact QT.Bel.call _ (HC.o _))
    refine wpQuiet_nil ?_;intro w2 hw';obtain ⟨⟨_,hb⟩,rfl⟩:=hw';have HS1:=Zz (HBk.o w2 hb);clear hb x0 x1 x2 x3 x4 x5 x6 x7 x8 y0 y1 y2 y3 y4 y5 y6 y7 y8 hcx hcy HBk HR;have hk1L:k + 1 <= L:=by omega
    go_wp2;go_loopw [5,7] (fun vk vm wx=>∃ (k1 m:Nat) (l':List Triple),vk = .int .i64 k1/\vm = .int .i64 m/\k <= k1/\1 <= m/\k1 < k + m/\k + m <= L/\Hid (CI R l' L k1 (k + m)/\SR W g l' wx)) (fun _ vm _=>L - (intOf vm).toNat)
    case atStart=>exact ⟨k,1,R,rfl,by go_num,by omega,by omega,by omega,by omega,Zz ⟨HI0.o,HS1.o⟩⟩
    case round =>
     obtain ⟨k1,m,l',rfl,rfl,hkk,hm1,hkm,hmL,HR⟩:=hrel;clear HI0 HS1;by_cases hlt2:m < n
     ·
      have hd2:decide (m < n) = true:=dT hlt2;have jm:(m:Int) < (n:Int):=by omega
      obtain ⟨mp,hmp⟩:∃ mp,mp = m - 1:=⟨_,rfl⟩;have hwm:IntKind.i64.wrap ((m:Int) - 1) = (mp:Int):=by rw [Zw];omega
      have jmp:(mp:Int) < (n:Int):=by omega
      have hjL:k + m < L:=by have:=HN.o;omega
      obtain ⟨x,hx⟩:∃ x,x = R[k + m]'(by rw [HL.o];exact hjL):=⟨_,rfl⟩;obtain ⟨y,hy⟩:∃ y,y = R[k + m - 1]'(by rw [HL.o];omega):=⟨_,rfl⟩;have hcx:C9 wr g (k * 9 + m * 9) x:=by
       rw [<- Nat.add_mul];exact HR.o.2.at (by rw [HR.o.1.tail (k + m) (by omega),hx];exact Zg _)
      have hcy:C9 wr g (k * 9 + mp * 9) y:=by
       rw [<- Nat.add_mul,show k + mp = k + m - 1 by omega];exact HR.o.2.at (by rw [HR.o.1.tail (k + m - 1) (by omega),hy];exact Zg _)
      have hgl:g < wr.heap.size:=hcx.lt;have HBk:Hid (∀ w2,Below wr.heap.size wr w2 -> SR W g l' w2):=Zz (fun w2 hb=>HR.o.2.below hgl hb);have HCC:=Zz (fun w=>eq_calls x y (by rw [hx];exact HSm.o _ _) (by rw [hy];exact HSm.o _ _) w);by_cases hv:cmpT x y = 0
      ·
       have HC:Hid (∀ w,Calls Tryz.prog 121 #[Ref5.tripleV x,Ref5.tripleV y] w fun e w'=>e = .returned (.bool true)/\Below w.heap.size w w'):=Zz (fun w=>by
        have:=HCC.o w
        rwa [dT hv] at this)
       have HI1:Hid (CI R l' L k1 (k + (m + 1))):=Zz (HR.o.1.same HL.o (by omega) hjL (by rw [<- hx,<- hy];exact hv));clear HCC hv hx hy hmp;obtain ⟨⟨sk,sx,se⟩,⟨pk,px,pe⟩,⟨ok,ox,oe⟩⟩:=x;obtain ⟨⟨sk',sx',se'⟩,⟨pk',px',pe'⟩,⟨ok',ox',oe'⟩⟩:=y;have x0:=fun p=>(hcx.bel p).c0
       have x1:=fun p=>(hcx.bel p).c1
       have x2:=fun p=>(hcx.bel p).c2
       have x3:=fun p=>(hcx.bel p).c3
       have x4:=fun p=>(hcx.bel p).c4
       have x5:=fun p=>(hcx.bel p).c5
       have x6:=fun p=>(hcx.bel p).c6
       have x7:=fun p=>(hcx.bel p).c7
       have x8:=fun p=>(hcx.bel p).c8
       have y0:=fun p=>(hcy.bel p).c0
       have y1:=fun p=>(hcy.bel p).c1
       have y2:=fun p=>(hcy.bel p).c2
       have y3:=fun p=>(hcy.bel p).c3
       have y4:=fun p=>(hcy.bel p).c4
       have y5:=fun p=>(hcy.bel p).c5
       have y6:=fun p=>(hcy.bel p).c6
       have y7:=fun p=>(hcy.bel p).c7
       have y8:=fun p=>(hcy.bel p).c8
       dsimp only at x0 x1 x2 x3 x4 x5 x6 x7 x8 y0 y1 y2 y3 y4 y5 y6 y7 y8;unfold Ref5.tripleV at HC;dsimp only at HC;go_upto_region 11 with fail
       refine QT.region_all (by kernel_rfl) (by kernel_rfl) ?_
       iterate 10 (go_big_quiet_step (fail))
       go_big_quiet_step (exact QT.Bel.call _ (HC.o _))
       iterate 1 (go_big_quiet_step (fail))
       refine wpQuiet_nil ?_;intro w2 hw';obtain ⟨⟨_,hb⟩,rfl⟩:=hw';have HS1:=Zz (HBk.o w2 hb);clear hb x0 x1 x2 x3 x4 x5 x6 x7 x8 y0 y1 y2 y3 y4 y5 y6 y7 y8 hcx hcy HBk HR;go_wp2;go_roundw
       case rel=>exact ⟨k1,m + 1,l',rfl,by go_num,by omega,by omega,by omega,by omega,Zz ⟨HI1.o,HS1.o⟩⟩
       case measure=>simp [intOf];omega
      ·
       have HC:Hid (∀ w,Calls Tryz.prog 121 #[Ref5.tripleV x,Ref5.tripleV y] w fun e w'=>e = .returned (.bool false)/\Below w.heap.size w w'):=Zz (fun w=>by
        have:=HCC.o w
        rwa [dF hv] at this)
       have HI1:Hid (CI R (l'.set k1 x) L (k1 + 1) (k + (m + 1))):=Zz (by
        have:=HR.o.1.put HL.o (by omega) hjL (by omega) (by rw [<- hx,<- hy];exact hv);rw [<- hx] at this;exact this)
       have jk1:(k1:Int) < (L:Int):=by omega
       have HPut:Hid (∀ w2,SR W g l' w2 -> SR W g (l'.set k1 x) (put9 w2 g (k1 * 9) x)):=Zz (fun w2 h=>h.set k1 (by rw [HR.o.1.len];omega) x);have HFree:Hid (∀ w2,SR W g l' w2 -> (∀ d,d < 9 -> w2.frozen? ⟨g,k1 * 9 + d,none⟩ = false)):=Zz (fun w2 hS2 d hd=>hS2.free _ (by rw [HR.o.1.len];omega));have HOld:Hid (∃ z,∀ w2,SR W g l' w2 -> C9 w2 g (k1 * 9) z):=Zz ⟨l'[k1]'(by rw [HR.o.1.len];omega),fun w2 h=>h.cells k1 _⟩;clear HCC hv hx hy hmp;obtain ⟨⟨sk,sx,se⟩,⟨pk,px,pe⟩,⟨ok,ox,oe⟩⟩:=x;obtain ⟨⟨sk',sx',se'⟩,⟨pk',px',pe'⟩,⟨ok',ox',oe'⟩⟩:=y;have x0:=fun p=>(hcx.bel p).c0
       have x1:=fun p=>(hcx.bel p).c1
       have x2:=fun p=>(hcx.bel p).c2
       have x3:=fun p=>(hcx.bel p).c3
       have x4:=fun p=>(hcx.bel p).c4
       have x5:=fun p=>(hcx.bel p).c5
       have x6:=fun p=>(hcx.bel p).c6
       have x7:=fun p=>(hcx.bel p).c7
       have x8:=fun p=>(hcx.bel p).c8
       have y0:=fun p=>(hcy.bel p).c0
       have y1:=fun p=>(hcy.bel p).c1
       have y2:=fun p=>(hcy.bel p).c2
       have y3:=fun p=>(hcy.bel p).c3
       have y4:=fun p=>(hcy.bel p).c4
       have y5:=fun p=>(hcy.bel p).c5
       have y6:=fun p=>(hcy.bel p).c6
       have y7:=fun p=>(hcy.bel p).c7
       have y8:=fun p=>(hcy.bel p).c8
       dsimp only at x0 x1 x2 x3 x4 x5 x6 x7 x8 y0 y1 y2 y3 y4 y5 y6 y7 y8;unfold Ref5.tripleV at HC;dsimp only at HC;go_upto_region 11 with fail
       refine QT.region_all (by kernel_rfl) (by kernel_rfl) ?_
       iterate 10 (go_big_quiet_step (fail))
       go_big_quiet_step (exact QT.Bel.call _ (HC.o _))
       iterate 1 (go_big_quiet_step (fail))
       refine wpQuiet_nil ?_;intro w2 hw';obtain ⟨⟨_,hb⟩,rfl⟩:=hw';have HS2:=Zz (HBk.o w2 hb);have HSW:=Zz (HPut.o w2 HS2.o);unfold put9 at HSW;dsimp only at HSW;have f0:=HFree.o w2 HS2.o 0 (by omega);have f1:=HFree.o w2 HS2.o 1 (by omega);have f2:=HFree.o w2 HS2.o 2 (by omega);have f3:=HFree.o w2 HS2.o 3 (by omega);have f4:=HFree.o w2 HS2.o 4 (by omega);have f5:=HFree.o w2 HS2.o 5 (by omega);have f6:=HFree.o w2 HS2.o 6 (by omega);have f7:=HFree.o w2 HS2.o 7 (by omega);have f8:=HFree.o w2 HS2.o 8 (by omega);obtain ⟨z,hz⟩:=HOld.o;have z0:=(hz w2 HS2.o).c0;have z1:=(hz w2 HS2.o).c1;have z2:=(hz w2 HS2.o).c2;have z3:=(hz w2 HS2.o).c3;have z4:=(hz w2 HS2.o).c4;have z5:=(hz w2 HS2.o).c5;have z6:=(hz w2 HS2.o).c6;have z7:=(hz w2 HS2.o).c7;have z8:=(hz w2 HS2.o).c8;simp only [Nat.add_zero] at f0;have a0:=(hcx.below hb).c0;have a1:=(hcx.below hb).c1;have a2:=(hcx.below hb).c2;have a3:=(hcx.below hb).c3;have a4:=(hcx.below hb).c4;have a5:=(hcx.below hb).c5;have a6:=(hcx.below hb).c6;have a7:=(hcx.below hb).c7;have a8:=(hcx.below hb).c8;clear hb x0 x1 x2 x3 x4 x5 x6 x7 x8 y0 y1 y2 y3 y4 y5 y6 y7 y8 hcx hcy HBk HR hz;dsimp only at a0 a1 a2 a3 a4 a5 a6 a7 a8;go_wp2;go_roundw
       case rel=>exact ⟨k1 + 1,m + 1,_,by go_num,by go_num,by omega,by omega,by omega,by omega,Zz ⟨HI1.o,HSW.o⟩⟩
       case measure=>simp [intOf];omega
     ·
      have hd2:decide (m < n) = false:=dF hlt2;have hk1L2:k1 < L:=by omega
      have HEnd:Hid (compactT R = l'.take k1):=Zz (by
       have:=HR.o.1.head;rw [List.take_of_length_le (l:=R) (by rw [HL.o];have:=HN.o;omega)] at this;exact this.symm)
      obtain ⟨n2,hn2⟩:∃ n2,n2 = L - k1:=⟨_,rfl⟩;obtain ⟨c3,hc3⟩:∃ c3,c3 = cap - k1:=⟨_,rfl⟩;have HSl2:∀ w,(Instr.slice 22 (.slice (some ⟨g,0,none⟩) L cap) (some (.int .i64 (k1:Int))) none none).run Tryz.prog w = .ok (.slice (some ⟨g,k1 * 9,none⟩) n2 c3) w:=fun w=>by rw [hn2,hc3];exact run_cutk w g L cap k1 hk1L2 hc
      have HSl3:∀ w,(Instr.slice 22 (.slice (some ⟨g,0,none⟩) L cap) none (some (.int .i64 (k1:Int))) none).run Tryz.prog w = .ok (.slice (some ⟨g,0,none⟩) k1 cap) w:=fun w=>run_takek w g L cap k1 (by omega) (by omega) hc
      have HLl:l'.length = L:=HR.o.1.len;obtain ⟨Z,hZ⟩:∃ Z,Z = (Builtin.zeroCells zeroV.cells n2).toList:=⟨_,rfl⟩;have HClr:∀ ty,(Builtin.clear_ #[22] ty #[.slice (some ⟨g,k1 * 9,none⟩) n2 c3]).run Tryz.prog wr = .ok (.tuple #[]) (wr.setCells g (k1 * 9) Z):=fun ty=>by
       rw [hZ];refine run_clear wr ty g (k1 * 9) n2 c3 (by omega) (fun j hj=>?_) (fun j hj=>?_)
       ·
        obtain ⟨q,d,hd,he⟩:∃ q d,d < 9/\k1 * 9 + j = q * 9 + d:=⟨(k1 * 9 + j) / 9,(k1 * 9 + j) % 9,Nat.mod_lt _ (by omega),by omega⟩;rw [he];have hq:q < l'.length:=by omega
        obtain ⟨c0,c1,c2,c3,c4,c5,c6,c7,c8⟩:=HR.o.2.cells q hq;rcases (by omega:d = 0 \/ d = 1 \/ d = 2 \/ d = 3 \/ d = 4 \/ d = 5 \/ d = 6 \/ d = 7 \/ d = 8) with h | h | h | h | h | h | h | h | h <;> subst h
        ·
         rw [show q * 9 + 0 = q * 9 from rfl,c0];rfl
        ·
         rw [c1];rfl
        ·
         rw [c2];rfl
        ·
         rw [c3];rfl
        ·
         rw [c4];rfl
        ·
         rw [c5];rfl
        ·
         rw [c6];rfl
        ·
         rw [c7];rfl
        ·
         rw [c8];rfl
       ·
        exact HR.o.2.free _ (by omega)
      have HV:Hid ((compactT R).length = k1/\SR W g (compactT R) (wr.setCells g (k1 * 9) Z)):=Zz (by
       have hlen:(compactT R).length = k1:=by rw [HEnd.o,Zi];omega
       refine ⟨hlen,HR.o.2.grown.trans (setCells_grown g Z _ _),fun i hi=>?_,fun j hj=>by rw [setCells_frozen];exact HR.o.2.free j (by omega)⟩;have hi2:i < l'.length:=by omega
       have hcell:=HR.o.2.cells i hi2;have he:(compactT R)[i] = l'[i]:=by
        have:∀ (A B:List Triple) (e:A = B) (h:i < A.length) (h':i < B.length),A[i] = B[i]:=by rintro A B rfl h h';rfl
        rw [this _ _ HEnd.o hi (by rw [<- HEnd.o];exact hi),List.getElem_take]
       rw [he];obtain ⟨c0,c1,c2,c3,c4,c5,c6,c7,c8⟩:=hcell;have far:∀ o,o < k1 * 9 -> (wr.setCells g (k1 * 9) Z).cell? ⟨g,o,none⟩ = wr.cell? ⟨g,o,none⟩:=fun o ho=>setCells_far g Z (k1 * 9) wr o ho
       exact ⟨(far _ (by omega)).trans c0,(far _ (by omega)).trans c1,(far _ (by omega)).trans c2,(far _ (by omega)).trans c3,(far _ (by omega)).trans c4,(far _ (by omega)).trans c5,(far _ (by omega)).trans c6,(far _ (by omega)).trans c7,(far _ (by omega)).trans c8⟩)
      clear hn2 hc3 hZ HEnd HR HLl;go_wp2;go_ret;exact ⟨by rw [HV.o.1];rfl,HV.o.2⟩
   ·
    have HC:Hid (∀ w,Calls Tryz.prog 121 #[Ref5.tripleV x,Ref5.tripleV y] w fun e w'=>e = .returned (.bool false)/\Below w.heap.size w w'):=Zz (fun w=>by
     have:=HCC.o w
     rwa [dF hv] at this)
    have HI0:Hid (∀ i (h:i < R.length),1 <= i -> i < k + 1 -> cmpT R[i] (R[i - 1]'(by omega)) ≠ 0):=Zz (fun i h h1 h2=>by
     by_cases e:i = k
     ·
      subst e;rw [<- hx,<- hy];exact hv
     ·
      exact HR.o.1 i h h1 (by omega))
    clear HCC hv hx hy hkp;obtain ⟨⟨sk,sx,se⟩,⟨pk,px,pe⟩,⟨ok,ox,oe⟩⟩:=x;obtain ⟨⟨sk',sx',se'⟩,⟨pk',px',pe'⟩,⟨ok',ox',oe'⟩⟩:=y;have x0:=fun p=>(hcx.bel p).c0
    have x1:=fun p=>(hcx.bel p).c1
    have x2:=fun p=>(hcx.bel p).c2
    have x3:=fun p=>(hcx.bel p).c3
    have x4:=fun p=>(hcx.bel p).c4
    have x5:=fun p=>(hcx.bel p).c5
    have x6:=fun p=>(hcx.bel p).c6
    have x7:=fun p=>(hcx.bel p).c7
    have x8:=fun p=>(hcx.bel p).c8
    have y0:=fun p=>(hcy.bel p).c0
    have y1:=fun p=>(hcy.bel p).c1
    have y2:=fun p=>(hcy.bel p).c2
    have y3:=fun p=>(hcy.bel p).c3
    have y4:=fun p=>(hcy.bel p).c4
    have y5:=fun p=>(hcy.bel p).c5
    have y6:=fun p=>(hcy.bel p).c6
    have y7:=fun p=>(hcy.bel p).c7
    have y8:=fun p=>(hcy.bel p).c8
    dsimp only at x0 x1 x2 x3 x4 x5 x6 x7 x8 y0 y1 y2 y3 y4 y5 y6 y7 y8;unfold Ref5.tripleV at HC;dsimp only at HC;go_upto_region 6 with fail
    refine QT.region_all (by kernel_rfl) (by kernel_rfl) ?_
    iterate 10 (go_big_quiet_step (fail))
    go_big_quiet_step (exact QT.Bel.call _ (HC.o _))
    refine wpQuiet_nil ?_;intro w2 hw';obtain ⟨⟨_,hb⟩,rfl⟩:=hw';have HS1:=Zz (HBk.o w2 hb);clear hb x0 x1 x2 x3 x4 x5 x6 x7 x8 y0 y1 y2 y3 y4 y5 y6 y7 y8 hcx hcy HBk HR;go_wp2;go_roundw
    case rel=>exact ⟨k + 1,by go_num,by omega,by omega,Zz ⟨HI0.o,HS1.o⟩⟩
    case measure=>simp [intOf];omega
  ·
   have hdk:decide (k < L) = false:=dF hlt;have HV:Hid ((compactT R).length = L/\SR W g (compactT R) wr):=Zz (by
    have he:compactT R = R:=by
     have h1:=compact_same R L (by omega) (by rw [HL.o];exact lR _) (fun i hi h1 h2=>HR.o.1 i hi h1 (by omega));rw [List.take_of_length_le (by rw [HL.o];exact lR _)] at h1;exact h1
    rw [he];exact ⟨HL.o,HR.o.2⟩)
   clear HR;go_wp2;go_ret;exact ⟨by rw [HV.o.1];rfl,HV.o.2⟩
end SortW
namespace SortW
open Go.RowKit Go.Lib B Rd Utf TermPure LinesPure Tx Env Tri SortP Print Cmp Long
theorem ins_nil (A:Option Addr) (c:Nat) (w:World):Calls Tryz.prog 194 #[.slice A 0 c,.int .i64 0,.int .i64 0,cmpV] w fun e w'=>e = .returned (.tuple #[])/\w' = w:=by
 unfold cmpV;go_enter func194,ntmps194;go_wp2;go_loopw [8] (fun vi wr=>vi = .int .i64 1/\wr = w) (fun vi _=>0)
 case atStart=>exact ⟨by go_num,rfl⟩
 case round =>
  obtain ⟨rfl,rfl⟩:=hrel;go_wp2;go_end0;exact ⟨rfl,rfl⟩
theorem stable_nil (A:Option Addr) (c:Nat) (w:World):Calls Tryz.prog 152 #[.slice A 0 c,.int .i64 0,cmpV] w fun e w'=>e = .returned (.tuple #[])/\w' = w:=by
 have HC:=Zz (ins_nil A c w);unfold cmpV at *;go_enter func152,ntmps152;go_wp2;go_loopw [7,8] (fun va vb wr=>va = .int .i64 0/\vb = .int .i64 20/\wr = w) (fun va _ _=>0)
 case atStart=>exact ⟨rfl,rfl,rfl⟩
 case round =>
  obtain ⟨rfl,rfl,rfl⟩:=hrel;go_wp2_with fail;refine HC.o.mono ?_;rintro e w2 ⟨rfl,rfl⟩;go_wp2;go_loopw [6] (fun va wx=>va = .int .i64 20/\wx = w2) (fun va _=>0)
  case atStart=>exact ⟨rfl,rfl⟩
  case round =>
   obtain ⟨rfl,rfl⟩:=hrel;go_wp2;go_end0;exact ⟨rfl,rfl⟩
theorem sortStable_nil (A:Option Addr) (c:Nat) (w:World) :
  Calls Tryz.prog 118 #[.slice A 0 c,cmpV] w fun e w'=>e = .returned (.tuple #[])/\w' = w:=by
 have HC:=Zz (stable_nil A c w);unfold cmpV at *;go_enter func118,ntmps118;go_wp2_with fail;refine HC.o.mono ?_;rintro e w2 ⟨rfl,rfl⟩;go_wp2;go_end0;exact ⟨rfl,rfl⟩
theorem compact_nil (A:Option Addr) (c:Nat) (w:World) :
  Calls Tryz.prog 120 #[.slice A 0 c,eqV] w fun e w'=>e = .returned (.slice A 0 c)/\w' = w:=by
 unfold eqV;go_enter func120,ntmps120;go_wp2;go_ret;exact ⟨rfl,rfl⟩
theorem maxcap {w:World} {base:Nat} {ok:Nat -> Prop} {l:List Triple} {A:Option Addr} {n c:Nat} (h:triK.own 36 w base ok (.slice A n c) l):c <= maxLen:=by
 obtain ⟨A',c',he,_,⟨_,h2⟩,_⟩:=Kd.own_sl (ok':=fun _=>True) h (fun _ _=>trivial) (fun _ _=>trivial);cases he;exact h2
theorem sort_calls (l:List Triple) (A:Option Addr) (c:Nat) (w:World) (HL:triK.sl.M w (fun k=>k < w.heap.size) l [.slice A l.length c]) (hs:∀ t ∈ l,SmallT t) (hv:Valid l) (hb:l.length * 120 <= 140737488355328) :
  Calls Tryz.prog 71 #[.slice A l.length c] w fun e w'=>∃ A' c',e = .returned (.slice A' (sortT l).length c')/\triK.sl.M w' (fun k=>w.heap.size <= k/\k < w'.heap.size) (sortT l) [.slice A' (sortT l).length c']/\Below w.heap.size w w':=by
 have HC:=Zz (clone_calls l A c w (triK.sl.mono (fun k _ _=>trivial) HL) hb);have HF:=Zz (row_fits HL);have HS:=Zz hs;have HV:=Zz hv;clear HL hs hv;go_enter func71,ntmps71;go_wp2_with fail;refine HC.o.mono ?_;rintro e w2 ⟨⟨v,rfl,ho⟩,hb2⟩;clear HC;have HB2:=Zz hb2;clear hb2;rcases Nat.eq_zero_or_pos l.length with h0 | hp
 ·
  obtain rfl:l = []:=Zn h0;obtain ⟨A2,c2,rfl,hc,hA⟩:=Kd.own_slice ho;have HM:Hid (triK.sl.M w2 (fun k=>w.heap.size <= k/\k < w2.heap.size) (sortT []) [.slice A2 (sortT []).length c2]):=Zz ⟨A2,c2,rfl,Nat.zero_le _,⟨Nat.zero_le _,maxcap ho⟩,hA,Kd.row_nil _ _ _ _⟩;clear ho;have HC2:=Zz (sortStable_nil A2 c2 w2);have HC3:=Zz (compact_nil A2 c2 w2);unfold cmpV at HC2;unfold eqV at HC3;go_wp2_with fail;refine HC2.o.mono ?_;rintro e w3 ⟨rfl,rfl⟩;go_wp2_with fail;refine HC3.o.mono ?_;rintro e w4 ⟨rfl,rfl⟩;go_wp2;go_ret;exact ⟨_,_,rfl,HM.o,HB2.o⟩
 ·
  obtain ⟨g,cap,rfl,hg,hlt,hc,hS⟩:=SR.of_own ho hp;have hcm:=maxcap ho;clear ho;have HC2:=Zz (sortStable_calls l l.length cap rfl (by omega) HS.o g w2 w2 hS);unfold cmpV at HC2;clear hS;go_wp2_with fail;refine HC2.o.mono ?_;rintro e w3 ⟨rfl,R,hR,hsR,hS3⟩;have HC3:=Zz (compact_calls R l.length cap hR.length_eq hc (by omega) hcm (fun t ht=>HS.o t (hR.mem_iff.1 ht)) g w2 w3 hS3);rw [compact_sorted HV.o hR hsR] at HC3;unfold eqV at HC3;have HSub:Hid ((sortT l).length <= l.length/\0 < (sortT l).length):=Zz (by
   have hlen:=compact_len R R.length (lR _);rw [List.take_length,compact_sorted HV.o hR hsR,hR.length_eq] at hlen;refine ⟨hlen,?_⟩;obtain ⟨x,hx⟩:=List.exists_mem_of_length_pos hp;exact List.length_pos_of_mem ((sortT_mem HV.o x).2 hx)
   )
  clear hS3 hR hsR HC2;go_wp2_with fail;refine HC3.o.mono ?_;rintro e w4 ⟨rfl,hS4⟩;have HFin:Hid (triK.sl.M w4 (fun k=>w.heap.size <= k/\k < w4.heap.size) (sortT l) [.slice (some ⟨g,0,none⟩) (sortT l).length cap]/\Below w.heap.size w w4):=Zz (by
   refine ⟨hS4.own HSub.o.2 (fun t ht=>HF.o t ((sortT_mem HV.o t).1 ht)) (by have:=HSub.o.1;omega) (by have:=HSub.o.1;omega) hcm _ ⟨hg,Nat.lt_of_lt_of_le hlt hS4.grown.size⟩,?_⟩;exact Below.grown HB2.o hS4.grown HB2.o.size (fun j hj=>by cases hj;exact hg))
  clear hS4 HC3;go_wp2;go_ret;exact ⟨_,_,rfl,HFin.o⟩
end SortW
namespace Prg
open Go.RowKit Go.Lib B Rd Utf TermPure LinesPure Tx Env Bld Tc
open Go.Proofs.YtnplommdgfgboaaGreatDoor.Ref5 (termV Fits tripleV FitsT up_len run_fst_len run_snd_len low_len zeroTr T9 oneV FitsO Next)
theorem until_bad_calls (rb:Nat) (l:List UInt8) (stop:UInt8) (lit:Bool) (w:World) (h:At w rb l true) :
  Calls Tryz.prog 205 #[.pointer (some ⟨rb,0,none⟩),.int .i32 (stop.toNat:Int),.bool lit] w fun e w'=>(∃ o,e = .returned (.string (mkS o)))/\Step w w' rb l true:=by
 have hlt:=h.lt;have HS0:=Zz ((Step.refl h).alloc (.cells #[.pointer none,.slice none 0 0] 161));have HB0:=Zz (Bld.new w);obtain ⟨c0,c1,f0,f1,_⟩:=h;go_enter func205,ntmps205;go_wp2;go_step3;go_wp2;go_step3;go_wp2;go_loopg [] 0 (fun n wr=>wr = w.alloc (.cells #[.pointer none,.slice none 0 0] 161))
 case atStart=>rfl
 case round =>
  subst hrel;go_wp2_with fail;refine (string_calls _ _ [] _ HB0.o (by simp)).mono ?_;rintro e w2 ⟨rfl,_,hb2⟩;have HS2:=Zz (HS0.o.belowB hb2 hlt);clear hb2;go_wp2;rw [Exit.noGoto_ret];go_ret;exact ⟨⟨_,rfl⟩,HS2.o⟩
theorem iri_calls (rb:Nat) (l:List UInt8) (hv:validD l = true) (w:World) (he:Env w) (hrb:lowB <= rb) (h:At w rb l false) :
  Calls Tryz.prog 161 #[.pointer (some ⟨rb,0,none⟩)] w fun e w'=>UntPost w rb (if ([60]:List UInt8).isPrefixOf l = true then up 62 false false (l.drop 1) else none) e w':=by
 have HM:=Zz (must_calls rb l [60] w h);have HE:=Zz he;have HV:=Zz (valid_drop [60] (by decide) l);have HVl:=Zz hv;clear h he hv;cases hp:([60]:List UInt8).isPrefixOf l with
 | true =>
  rw [hp] at HM;simp only [if_true,Bool.not_true,Zc,List.length_nil,Nat.zero_add] at HM;have HVq:=Zz (HV.o hp HVl.o);simp only [Zc,List.length_nil,Nat.zero_add] at HVq;rw [if_pos rfl];clear hp HV;generalize l.drop 1 = q at *;go_enter func161,ntmps161;go_wp2_with fail;refine HM.o.mono ?_;rintro e w1 ⟨rfl,hs1⟩;have HS1:=Zz hs1;have HE1:=Zz (HE.o.step hs1 hrb);clear hs1 HM;go_wp2_with fail;refine (until_calls rb q 62 (by decide) (by decide) false HVq.o _ HE1.o hrb HS1.o.at').mono ?_;intro e w2 hp;cases hu:up 62 false false q with
  | none =>
   rw [hu] at hp;obtain ⟨o,s,rfl,hs2⟩:=hp;have HS2:=Zz (HS1.o.trans hs2);have HU:=Zz hu;clear hs2 hu;go_wp2;go_ret;rw [HU.o];exact ⟨_,_,rfl,HS2.o⟩
  | some p =>
   obtain ⟨o,r⟩:=p;rw [hu] at hp;obtain ⟨rfl,hs2,hvr⟩:=hp;have HS2:=Zz (HS1.o.trans hs2);have HU:=Zz hu;have HVr:=Zz hvr;clear hs2 hu hvr;go_wp2;go_ret;rw [HU.o];exact ⟨rfl,HS2.o,HVr.o⟩
 | false =>
  rw [hp] at HM;simp only [Bool.false_eq_true,if_false,Bool.not_false] at HM;rw [if_neg (by decide)];clear hp HV;go_enter func161,ntmps161;go_wp2_with fail;refine HM.o.mono ?_;rintro e w1 ⟨rfl,hs1⟩;have HS1:=Zz hs1;clear hs1 HM;go_wp2_with fail;refine (until_bad_calls rb l 62 false _ HS1.o.at').mono ?_;rintro e w2 ⟨⟨o,rfl⟩,hs2⟩;have HS2:=Zz (HS1.o.trans hs2);clear hs2;go_wp2;go_ret;exact ⟨_,_,rfl,HS2.o⟩
def PTermPost (w:World) (rb:Nat) (r:Option (Term × List UInt8)) (e:Ending) (w':World):Prop:=match r with
 | none=>(∃ t:Term,e = .returned (termV t))/\∃ s,Step w w' rb s true
 | some (t,q)=>(e = .returned (termV t)/\Fits t)/\Step w w' rb q false/\validD q = true
theorem toLower_calls (u:List UInt8) (hu:u.length <= 140737488355328) (ha:∀ b ∈ u,b.toNat < 128) (w:World) :
  Calls Tryz.prog 208 #[.string (mkS u)] w fun e w'=>e = .returned (.string (mkS (toLowerA u)))/\Below w.heap.size w w':=
 Tryz.strings_ToLower_ascii (mkS u) w (by rw [mkS_size];exact hu) (fun j b hb=>ha b (List.mem_of_getElem? hb))
theorem literal_calls (rb:Nat) (l:List UInt8) (hv:validD l = true) (w:World) (he:Env w) (hrb:lowB <= rb) (h:At w rb l false) :
  Calls Tryz.prog 165 #[.pointer (some ⟨rb,0,none⟩)] w fun e w'=>PTermPost w rb (literal false l) e w':=by
 have hlt:=h.lt;have hlen:=h.len;have HS0:=Zz ((Step.refl h).alloc (.cells #[.int .i64 0,.string (mkS []),.string (mkS [])] 24));have T0:=Zz (TC.new w zeroT);have HE0:=Zz (he.below (bel_alloc (bR _ _) (.cells #[.int .i64 0,.string (mkS []),.string (mkS [])] 24)));have HVl:=Zz hv;have hn1:¬ w.heap.size = rb:=by omega
 have HL:Hid (literal false l = match up 34 true true l with
 | none=>none
 | some (t,r) =>
  if [64].isPrefixOf r = true then some (⟨4,t,toLowerA (run true (r.drop 1)).1⟩,(run true (r.drop 1)).2)
  else if [94,94].isPrefixOf r = true then
   if [60].isPrefixOf (r.drop 2) = true then (up 62 false false (r.drop 3)).map fun x=>(⟨5,t,x.1⟩,x.2)
   else if false = true then some (⟨3,t,[]⟩,r) else none
  else some (⟨3,t,[]⟩,r)):=Zz rfl
 clear h he hv;go_enter func165,ntmps165;go_wp2_with fail;refine (until_calls rb l 34 (by decide) (by decide) true HVl.o _ HE0.o hrb HS0.o.at').mono ?_;intro e w1 hp;have UL:=up_len 34 true true l.length l (lR _);cases hu:up 34 true true l with
 | none =>
  rw [hu] at hp HL;obtain ⟨o,s,rfl,hs1⟩:=hp;have HS1:=Zz (HS0.o.trans hs1);have T1:=Zz (T0.o.grown hs1.grown hn1);have hz1:w.heap.size < w1.heap.size:=T1.o.lt;have hn2:¬ w1.heap.size = rb:=by omega
  have hn3:¬ w1.heap.size = w.heap.size:=by omega
  have hn4:¬ w.heap.size = w1.heap.size:=by omega
  have HS2:=Zz (HS1.o.alloc (.cells #[.int .i64 3,.string (mkS o),.string (mkS [])] 24));have T2:=Zz (T1.o.alloc (.cells #[.int .i64 3,.string (mkS o),.string (mkS [])] 24));have T3:=Zz (TC.new w1 ⟨3,o,[]⟩);clear hs1 hu UL;go_wp2_with fail;refine (is_bad_calls rb s [64] _ HS2.o.at').mono ?_;rintro e w2 ⟨rfl,rfl⟩;go_wp2_with fail;refine (is_bad_calls rb s [94,94] _ HS2.o.at').mono ?_;rintro e w2 ⟨rfl,rfl⟩;obtain ⟨m0,m1,m2,m3,m4,m5⟩:=T1.o;simp only [Nat.zero_add] at m1 m2 m4 m5;dsimp only [zeroT] at *;go_wp2;refine bodyPost_ret (v:=termV ⟨3,o,[]⟩) (by simp [results,Tryz.results165,go_sem,hn1,hn2,hn3,hn4,hz1,m0,m1,m2,termV,mkS_nil]) rfl ?_;rw [HL.o];refine ⟨⟨_,rfl⟩,s,?_⟩;clear m0 m1 m2 m3 m4 m5
  repeat first | exact HS2.o | exact HS1.o | refine Step.alloc ?_ _ | refine Step.other ?_ (by omega) (by omega) _
 | some p =>
  obtain ⟨t,r⟩:=p;have hlen2:=UL t r hu;rw [hu] at hp HL;obtain ⟨rfl,hs1,hvr⟩:=hp;dsimp only at HL;have HS1:=Zz (HS0.o.trans hs1);have T1:=Zz (T0.o.grown hs1.grown hn1);have HE1:=Zz (HE0.o.step hs1 hrb);have HV1:=Zz hvr;have hz1:w.heap.size < w1.heap.size:=T1.o.lt;have hn2:¬ w1.heap.size = rb:=by omega
  have hn3:¬ w1.heap.size = w.heap.size:=by omega
  have hn4:¬ w.heap.size = w1.heap.size:=by omega
  have HS2:=Zz (HS1.o.alloc (.cells #[.int .i64 3,.string (mkS t),.string (mkS [])] 24));have HE2:=Zz (HE1.o.below (bel_alloc (bR _ _) (.cells #[.int .i64 3,.string (mkS t),.string (mkS [])] 24)));have T2:=Zz (T1.o.alloc (.cells #[.int .i64 3,.string (mkS t),.string (mkS [])] 24));have T3:=Zz (TC.new w1 ⟨3,t,[]⟩);have ML:=Zz (valid_drop [64] (by decide) r);have MC:=Zz (valid_drop [94,94] (by decide) r);clear hs1 hu UL hvr;go_wp2_with fail;refine (is_calls rb r [64] _ HS2.o.at').mono ?_;rintro e w2 ⟨rfl,hs2⟩;have HS3:=Zz (HS2.o.trans hs2);have HE3:=Zz (HE2.o.step hs2 hrb);have U2:=Zz (T2.o.grown hs2.grown hn1);have U3:=Zz (T3.o.grown hs2.grown hn2);have hz2:w1.heap.size < w2.heap.size:=U3.o.lt;clear hs2;cases c1:([64]:List UInt8).isPrefixOf r with
  | true =>
   have HD:=Zz (HL.o.trans (if_pos c1));have HVq:=Zz (ML.o c1 HV1.o);rw [c1] at HS3;simp only [if_true,Zc,List.length_nil,Nat.zero_add] at HS3 HVq;have hql:(r.drop 1).length <= r.length:=by simp
   clear c1 HL ML MC;generalize r.drop 1 = q at *;obtain ⟨k0,k1,k2,k3,k4,k5⟩:=U3.o;simp only [Nat.zero_add] at k1 k2 k4 k5;dsimp only [zeroT] at *;go_wp2_with fail;have HS4:=Zz (HS3.o.other (g:=w1.heap.size) (j:=0) (by omega) hn2 (.int .i64 4));have X2:=Zz (U2.o.other (g':=w1.heap.size) (j:=0) hn4 (.int .i64 4));refine (while_calls rb q _ true tells_dash _ HS4.o.at').mono ?_;rintro e w3 ⟨rfl,hs5⟩;have HS5:=Zz (HS4.o.trans hs5);have Y2:=Zz (X2.o.grown hs5.grown hn1);have Z3:Hid (TC w3 w1.heap.size 0 ⟨4,t,[]⟩):=Zz ((U3.o.setK 4).grown hs5.grown hn2);have hz3:w1.heap.size < w3.heap.size:=Z3.o.lt;have hrl:=run_fst_len true q;have hra:=run_ascii true q;have HVr:=Zz (run_valid true q HVq.o);generalize run true q = pr at *;obtain ⟨ru,rq⟩:=pr;dsimp only at *;have HA:=Zz hra;clear k0 k1 k2 k3 k4 k5;clear hs5 hra;go_wp2_with fail;refine (toLower_calls ru (by omega) HA.o _).mono ?_;rintro e w4 ⟨rfl,hb6⟩;have HS6:=Zz (HS5.o.below hb6);have V2:=Zz (Y2.o.below hb6);have V3:=Zz (Z3.o.below hb6);have hll:=low_len ru;generalize toLowerA ru = lo at *;clear hb6;obtain ⟨m0,m1,m2,m3,m4,m5⟩:=V2.o;simp only [Nat.zero_add] at m1 m2 m4 m5;dsimp only [zeroT] at *;obtain ⟨k0,k1,k2,k3,k4,k5⟩:=V3.o;simp only [Nat.zero_add] at k1 k2 k4 k5;dsimp only [zeroT] at *;go_wp2;refine bodyPost_ret (v:=termV ⟨4,t,lo⟩) (by simp [results,Tryz.results165,go_sem,hn1,hn2,hn3,hn4,hz1,m0,m1,m2,termV,mkS_nil]) rfl ?_;rw [HD.o];refine ⟨⟨rfl,by simp,by simp;omega,by simp;omega⟩,?_,HVr.o⟩;clear m0 m1 m2 m3 m4 m5;clear k0 k1 k2 k3 k4 k5
   repeat first | exact HS6.o | refine Step.alloc ?_ _ | refine Step.other ?_ (by omega) (by omega) _
  | false =>
   have HD:=Zz (HL.o.trans (if_neg (by rw [c1];decide)));rw [c1] at HS3;simp only [Bool.false_eq_true,if_false] at HS3;clear c1 HL ML;go_wp2_with fail;refine (is_calls rb r [94,94] _ HS3.o.at').mono ?_;rintro e w3 ⟨rfl,hs4⟩;have HS4:=Zz (HS3.o.trans hs4);have HE4:=Zz (HE3.o.step hs4 hrb);have X2:=Zz (U2.o.grown hs4.grown hn1);have X3:=Zz (U3.o.grown hs4.grown hn2);have hz3:w1.heap.size < w3.heap.size:=X3.o.lt;clear hs4;cases c2:([94,94]:List UInt8).isPrefixOf r with
   | true =>
    have HD2:=Zz (HD.o.trans (if_pos c2));have HVq:=Zz (MC.o c2 HV1.o);rw [c2] at HS4;simp only [if_true,Zc,List.length_nil,Nat.zero_add,Nat.reduceAdd] at HS4 HVq;rw [show r.drop 3 = (r.drop 2).drop 1 by rw [List.drop_drop]] at HD2;have hql:(r.drop 2).length <= r.length:=by simp
    clear c2 HD MC;generalize r.drop 2 = q at *;obtain ⟨k0,k1,k2,k3,k4,k5⟩:=X3.o;simp only [Nat.zero_add] at k1 k2 k4 k5;dsimp only [zeroT] at *;go_wp2_with fail;have HS5:=Zz (HS4.o.other (g:=w1.heap.size) (j:=0) (by omega) hn2 (.int .i64 5));have HE5:=Zz (HE4.o.set (g:=w1.heap.size) (j:=0) (by omega) (.int .i64 5));have Y2:=Zz (X2.o.other (g':=w1.heap.size) (j:=0) hn4 (.int .i64 5));have Y3:Hid (TC (w3.setCell ⟨w1.heap.size,0,none⟩ (.int .i64 5)) w1.heap.size 0 ⟨5,t,[]⟩):=Zz (X3.o.setK 5);refine (iri_calls rb q HVq.o _ HE5.o hrb HS5.o.at').mono ?_;intro e w4 hp;have HQ:Hid (literal false l = (if ([60]:List UInt8).isPrefixOf q = true then up 62 false false (q.drop 1) else none).map fun x=>(⟨5,t,x.1⟩,x.2)):=Zz (by
     rw [HD2.o]
     split
     ·
      rfl
     ·
      rfl)
    have UL2:=up_len 62 false false (q.drop 1).length (q.drop 1) (lR _);have hU:∀ o r',(if ([60]:List UInt8).isPrefixOf q = true then up 62 false false (q.drop 1) else none) = some (o,r') -> o.length + r'.length <= q.length:=fun o r' h=>by
     split at h
     ·
      have:=UL2 o r' h;simp at this;omega
     ·
      cases h
    clear k0 k1 k2 k3 k4 k5;clear HD2 UL2;generalize (if ([60]:List UInt8).isPrefixOf q = true then up 62 false false (q.drop 1) else none) = R at *;cases R with
    | none =>
     obtain ⟨o,s,rfl,hs6⟩:=hp;have HS6:=Zz (HS5.o.trans hs6);have W2:=Zz (Y2.o.grown hs6.grown hn1);have W3:=Zz (Y3.o.grown hs6.grown hn2);have hz4:w1.heap.size < w4.heap.size:=W3.o.lt;clear hs6;clear hU;obtain ⟨m0,m1,m2,m3,m4,m5⟩:=W2.o;simp only [Nat.zero_add] at m1 m2 m4 m5;dsimp only [zeroT] at *;obtain ⟨k0,k1,k2,k3,k4,k5⟩:=W3.o;simp only [Nat.zero_add] at k1 k2 k4 k5;dsimp only [zeroT] at *;go_wp2;refine bodyPost_ret (v:=termV ⟨5,t,o⟩) (by simp [results,Tryz.results165,go_sem,hn1,hn2,hn3,hn4,hz1,m0,m1,m2,termV,mkS_nil]) rfl ?_;rw [HQ.o];refine ⟨⟨_,rfl⟩,s,?_⟩;clear m0 m1 m2 m3 m4 m5;clear k0 k1 k2 k3 k4 k5
     repeat first | exact HS6.o | refine Step.alloc ?_ _ | refine Step.other ?_ (by omega) (by omega) _
    | some p2 =>
     obtain ⟨o,r'⟩:=p2;obtain ⟨rfl,hs6,hv6⟩:=hp;have hol:=hU o r' rfl;have HV6:=Zz hv6;have HS6:=Zz (HS5.o.trans hs6);have W2:=Zz (Y2.o.grown hs6.grown hn1);have W3:=Zz (Y3.o.grown hs6.grown hn2);have hz4:w1.heap.size < w4.heap.size:=W3.o.lt;clear hs6;clear hU hv6;obtain ⟨m0,m1,m2,m3,m4,m5⟩:=W2.o;simp only [Nat.zero_add] at m1 m2 m4 m5;dsimp only [zeroT] at *;obtain ⟨k0,k1,k2,k3,k4,k5⟩:=W3.o;simp only [Nat.zero_add] at k1 k2 k4 k5;dsimp only [zeroT] at *;go_wp2;refine bodyPost_ret (v:=termV ⟨5,t,o⟩) (by simp [results,Tryz.results165,go_sem,hn1,hn2,hn3,hn4,hz1,m0,m1,m2,termV,mkS_nil]) rfl ?_;rw [HQ.o];refine ⟨⟨rfl,by simp,by simp;omega,by simp;omega⟩,?_,HV6.o⟩;clear m0 m1 m2 m3 m4 m5;clear k0 k1 k2 k3 k4 k5
     repeat first | exact HS6.o | refine Step.alloc ?_ _ | refine Step.other ?_ (by omega) (by omega) _
   | false =>
    have HD2:=Zz (HD.o.trans (if_neg (by rw [c2];decide)));rw [c2] at HS4;simp only [Bool.false_eq_true,if_false] at HS4;clear c2 HD MC;obtain ⟨m0,m1,m2,m3,m4,m5⟩:=X2.o;simp only [Nat.zero_add] at m1 m2 m4 m5;dsimp only [zeroT] at *;obtain ⟨k0,k1,k2,k3,k4,k5⟩:=X3.o;simp only [Nat.zero_add] at k1 k2 k4 k5;dsimp only [zeroT] at *;go_wp2;refine bodyPost_ret (v:=termV ⟨3,t,[]⟩) (by simp [results,Tryz.results165,go_sem,hn1,hn2,hn3,hn4,hz1,m0,m1,m2,termV,mkS_nil]) rfl ?_;rw [HD2.o];refine ⟨⟨rfl,by simp,by simp;omega,by simp⟩,?_,HV1.o⟩;clear m0 m1 m2 m3 m4 m5;clear k0 k1 k2 k3 k4 k5
    repeat first | exact HS4.o | refine Step.alloc ?_ _ | refine Step.other ?_ (by omega) (by omega) _
end Prg
namespace Prg
open Go.RowKit Go.Lib B Rd Utf TermPure LinesPure Tx Env Bld Tc
structure Holds (w:World) (g:Nat) (lb:Array Value) (p:Nat -> Bool):Prop where
 enters:∀ args w,(callFunc g args).run Tryz.prog w = .ok (.enter g args) w
 tells:PredGrows Tryz.prog g lb p w
theorem not_calls (B g c:Nat) (lb:Array Value) (p:Nat -> Bool) (hc:c <= 1114111) (w0 w:World) (hp:Holds w0 g lb p) (hb:Below w0.heap.size w0 w) (hcell:w.cell? ⟨B,0,none⟩ = some (.func (.func g) #[] lb)) :
  Calls Tryz.prog 246 #[.int .i32 (c:Int),.pointer (some ⟨B,0,none⟩)] w fun e w'=>e = .returned (.bool (!p c))/\Below w.heap.size w w':=by
 have hC:=hp.tells w c hc hb;have heg:=hp.enters;have HC:=Zz hC;clear hC hp hb;go_enter func246,ntmps246;go_wp2_with fail;refine HC.o.mono ?_;rintro e w1 ⟨rfl,hb1⟩;have HB:=Zz hb1;obtain ⟨q,hq⟩:∃ q,p c = q:=⟨_,rfl⟩;have HQ:=Zz hq;rw [hq];clear hb1 hq;cases q
 all_goals go_wp2
 all_goals go_ret
 all_goals exact ⟨ret_bool (by rw [HQ.o];rfl),HB.o⟩
theorem all_not (p:Nat -> Bool) (l:List Nat):(!l.any fun c=>!p c) = l.all p:=by
 induction l with
 | nil=>rfl
 | cons c l ih=>rw [List.any_cons,List.all_cons,<- ih];cases p c <;> rfl
theorem all_calls (s:List UInt8) (g:Nat) (lb:Array Value) (p:Nat -> Bool) (w:World) (hp:Holds w g lb p) :
  Calls Tryz.prog 220 #[.string (mkS s),.func (.func g) #[] lb] w fun e w'=>e = .returned (.bool ((runes s).all p))/\Below w.heap.size w w':=by
 have hW:Below w.heap.size w (w.alloc (.cells #[.func (.func g) #[] lb] 211)):=bel_alloc (bR _ _) _;have hcell:(w.alloc (.cells #[.func (.func g) #[] lb] 211)).cell? ⟨w.heap.size,0,none⟩ = some (.func (.func g) #[] lb):=by
  unfold World.cell?;dsimp only;rw [Kd.heap_new]
  try rfl
 have hC:Calls Tryz.prog 245 #[.string (mkS s),.func (.func 246) #[] #[.pointer (some ⟨w.heap.size,0,none⟩)]] (w.alloc (.cells #[.func (.func g) #[] lb] 211)) fun e w'=>e = .returned (.bool ((runes s).any fun c=>!p c))/\Below w.heap.size w w':=by
  refine (Tryz.strings_ContainsFunc_grows 246 #[.pointer (some ⟨w.heap.size,0,none⟩)] (enters_of func246 (by kernel_rfl) rfl) (fun c=>!p c) (mkS s) _ ?_).mono ?_
  ·
   intro W x hx hb;have hb':Below w.heap.size w W:=hW.trans (hb.mono (by simp));exact not_calls w.heap.size g x lb p hx w W hp hb' ((hb.cell (p:=⟨w.heap.size,0,none⟩) (by simp)).trans hcell)
  ·
   rintro e w' ⟨h1,h2⟩;exact ⟨by rw [h1,contains_any],hW.trans (h2.mono (by simp))⟩
 have HC:=Zz hC;have HQ:=Zz (all_not p (runes s));clear hC hW hcell hp;obtain ⟨q,hq⟩:∃ q,((runes s).any fun c=>!p c) = q:=⟨_,rfl⟩;rw [hq] at HC HQ;clear hq;go_enter func220,ntmps220;go_wp2_with fail;refine HC.o.mono ?_;rintro e w1 ⟨rfl,hb1⟩;have HB:=Zz hb1;clear hb1;cases q
 all_goals go_wp2
 all_goals go_ret
 all_goals exact ⟨ret_bool (by rw [<- HQ.o];rfl),HB.o⟩
theorem small1_calls (c:Nat) (w:World) :
  Calls Tryz.prog 227 #[.int .i32 (c:Int)] w fun e w'=>e = .returned (.bool (decide (97 <= c) && decide (c <= 122)))/\w = w':=by
 go_enter func227,ntmps227;go_wp2
 all_goals go_ret
 all_goals exact ⟨ret_bool (by rw [Bool.eq_iff_iff];simp;omega),rfl⟩
theorem digit1_calls (c:Nat) (w:World) :
  Calls Tryz.prog 224 #[.int .i32 (c:Int)] w fun e w'=>e = .returned (.bool (decide (48 <= c) && decide (c <= 57)))/\w = w':=by
 go_enter func224,ntmps224;go_wp2
 all_goals go_ret
 all_goals exact ⟨ret_bool (by rw [Bool.eq_iff_iff];simp;omega),rfl⟩
theorem letter1_calls (c:Nat) (w:World) :
  Calls Tryz.prog 223 #[.int .i32 (c:Int)] w fun e w'=>e = .returned (.bool ((decide (97 <= c) && decide (c <= 122)) || (decide (65 <= c) && decide (c <= 90))))/\w = w':=by
 go_enter func223,ntmps223;go_wp2_with fail;refine (small1_calls c _).mono ?_;rintro e w1 ⟨rfl,rfl⟩;obtain ⟨q,hq⟩:∃ q,(decide (97 <= c) && decide (c <= 122)) = q:=⟨_,rfl⟩;have HQ:=Zz hq;rw [hq];clear hq;cases q
 all_goals go_wp2
 all_goals go_ret
 all_goals exact ⟨ret_bool (by rw [HQ.o,Bool.eq_iff_iff];simp;try omega),rfl⟩
theorem label1_calls (c:Nat) (w:World) :
  Calls Tryz.prog 222 #[.int .i32 (c:Int)] w fun e w'=>e = .returned (.bool (alnum c))/\w = w':=by
 have HA:Hid (alnum c = (((decide (97 <= c) && decide (c <= 122)) || (decide (65 <= c) && decide (c <= 90))) || (decide (48 <= c) && decide (c <= 57)))):=Zz rfl;go_enter func222,ntmps222;go_wp2_with fail;refine (letter1_calls c _).mono ?_;rintro e w1 ⟨rfl,rfl⟩;generalize ((decide (97 <= c) && decide (c <= 122)) || (decide (65 <= c) && decide (c <= 90))) = q at *;cases q
 ·
  go_wp2_with fail;refine (digit1_calls c _).mono ?_;rintro e w1 ⟨rfl,rfl⟩;generalize (decide (48 <= c) && decide (c <= 57)) = r at *;cases r
  all_goals go_wp2
  all_goals go_ret
  all_goals exact ⟨ret_bool (by rw [HA.o];rfl),rfl⟩
 ·
  go_wp2;go_ret;exact ⟨ret_bool (by rw [HA.o];rfl),rfl⟩
def oddL:List UInt8:=[34,60,62,92,94,96,123,124,125]
theorem odd_eq:∀ n:Fin 128,oddL.contains (UInt8.ofNat n.val) = odd.contains n.val:=by decide +kernel
theorem rune1_calls (c:Nat) (hc:c <= 1114111) (w:World) :
  Calls Tryz.prog 221 #[.int .i32 (c:Int)] w fun e w'=>e = .returned (.bool (iriRune c))/\w = w':=by
 have HA:Hid (iriRune c = ((decide (32 < c) && decide (c < 127) && !odd.contains c) || (decide (160 <= c)))):=Zz rfl;by_cases h1:32 < c
 ·
  by_cases h2:c < 127
  ·
   have e1:decide ((32:Int) < (c:Int)) = true:=dT (by omega);have e2:decide ((c:Int) < 127) = true:=dT (by omega);have e3:decide ((160:Int) <= (c:Int)) = false:=dF (by omega);have HO:=Zz (odd_eq ⟨c,by omega⟩);have HF:=Zz (HA.o.trans (show _ = !odd.contains c by rw [dT h1,dT h2,dF (by omega:¬ 160 <= c)];simp));go_enter func221,ntmps221;go_wp2_with fail;refine (containsRune_calls oddL c (by omega) _).mono ?_;rintro e w1 ⟨rfl,rfl⟩;rw [HO.o];dsimp only;generalize odd.contains c = q at *;clear HA HO h1 h2;cases q
   all_goals go_wp2
   all_goals go_ret
   all_goals exact ⟨ret_bool (by rw [HF.o];rfl),rfl⟩
  ·
   have e1:decide ((32:Int) < (c:Int)) = true:=dT (by omega);have e2:decide ((c:Int) < 127) = false:=dF (by omega);have HF:=Zz (HA.o.trans (show _ = decide ((160:Int) <= (c:Int)) by rw [dT h1,dF h2,Bool.eq_iff_iff];simp;try omega));clear HA h1 h2;go_enter func221,ntmps221;go_wp2
   all_goals go_ret
   all_goals exact ⟨ret_bool (by first | (rw [HF.o];done) | (rw [HF.o];rfl)),rfl⟩
 ·
  have e1:decide ((32:Int) < (c:Int)) = false:=dF (by omega);have e3:decide ((160:Int) <= (c:Int)) = false:=dF (by omega);have HF:=Zz (HA.o.trans (show _ = false by rw [dF h1,dF (by omega:¬ 160 <= c)];rfl));clear HA h1;go_enter func221,ntmps221;go_wp2;go_ret;exact ⟨ret_bool HF.o.symm,rfl⟩
theorem holds_rune (w:World):Holds w 221 #[] iriRune:=
 ⟨enters_of func221 (by kernel_rfl) rfl,fun W x hx hb=>(rune1_calls x hx W).mono fun e w' ⟨h1,h2⟩=>⟨h1,h2 ▸ bR _ _⟩⟩
theorem holds_label (w:World):Holds w 222 #[] alnum:=
 ⟨enters_of func222 (by kernel_rfl) rfl,fun W x hx hb=>(label1_calls x W).mono fun e w' ⟨h1,h2⟩=>⟨h1,h2 ▸ bR _ _⟩⟩
theorem isIRI_calls (s:List UInt8) (hs:s.length <= 70368744177664) (w:World) (he:Env w) :
  Calls Tryz.prog 191 #[.string (mkS s)] w fun e w'=>e = .returned (.bool (isIRI s))/\Below w.heap.size w w':=by
 have z:=mkS_size s;have zt:=mkS_toList s;have HE:=Zz he;have HI:Hid (isIRI s = (decide (s ≠ []) && (decide (s.length <= 60) && (validD s && (runes s).all iriRune)))):=Zz rfl;have HA:=Zz (fun w=>all_calls s 221 #[] iriRune w (holds_rune w));clear he;by_cases h0:s = []
 ·
  subst h0;go_enter func191,ntmps191;go_wp2;go_ret;exact ⟨rfl,bR _ _⟩
 ·
  have hE:s.isEmpty = false:=by cases s with
   | nil=>exact absurd rfl h0
   | cons b t=>rfl
  by_cases h1:s.length <= 60
  ·
   have e1:decide ((s.length:Int) <= 60) = true:=dT (by omega);have HI2:=Zz (HI.o.trans (show _ = (validD s && (runes s).all iriRune) by rw [dT h0,dT h1];simp));clear HI;go_enter func191,ntmps191;go_wp2_with fail;refine (valid_calls s (by omega) _ HE.o).mono ?_;rintro e w1 ⟨rfl,hb1⟩;have HB1:=Zz hb1;clear hb1;generalize validD s = v at *;cases v
   ·
    go_wp2;go_ret;exact ⟨ret_bool (by rw [HI2.o];rfl),HB1.o⟩
   ·
    go_wp2_with fail;refine (HA.o _).mono ?_;rintro e w2 ⟨rfl,hb2⟩;have HB2:=Zz (bel_step HB1.o hb2);clear hb2;generalize (runes s).all iriRune = q at *;cases q
    all_goals go_wp2
    all_goals go_ret
    all_goals exact ⟨ret_bool (by rw [HI2.o];rfl),HB2.o⟩
  ·
   have e1:decide ((s.length:Int) <= 60) = false:=dF (by omega);have HI2:=Zz (HI.o.trans (show _ = false by rw [dF h1];simp));clear HI;go_enter func191,ntmps191;go_wp2;go_ret;exact ⟨ret_bool HI2.o.symm,bR _ _⟩
end Prg
namespace SplitP
open Go.Lib B Rd TermPure
def splitL:List UInt8 -> List (List UInt8)
 | []=>[[]]
 | b :: l=>if b = 45 then [] :: splitL l else match splitL l with
  | []=>[[b]]
  | h :: t=>(b :: h) :: t
theorem splitL_ne:∀ l,splitL l ≠ []
 | []=>by simp [splitL]
 | b :: l=>by
  rw [splitL]
  split
  ·
   simp
  ·
   split <;> simp
theorem splitL_none:∀ l:List UInt8,(∀ b ∈ l,b ≠ 45) -> splitL l = [l]
 | [],_=>rfl
 | b :: l,h=>by rw [splitL,if_neg (h b (by simp)),splitL_none l (fun x hx=>h x (by simp [hx]))]
theorem splitL_at:∀ (a r:List UInt8),(∀ b ∈ a,b ≠ 45) -> splitL (a ++ 45 :: r) = a :: splitL r
 | [],r,_=>by rw [Zf,splitL,if_pos rfl]
 | b :: a,r,h=>by rw [List.cons_append,splitL,if_neg (h b (by simp)),splitL_at a r (fun x hx=>h x (by simp [hx]))]
theorem split_dash:∀ (n:Nat) (l:List UInt8),l.length <= n -> splitB (mkS [45]) 0 (countB (mkS l) (mkS [45])) (mkS l) = (splitL l).map mkS
 | n,l,hn=>by
  have hi:indexB (mkS l) (mkS [45]) = indexByte l 45:=Lib.one (mkS l) (mkS [45]) rfl;have hge:=indexByte_ge l 45;by_cases hm:indexByte l 45 = -1
  ·
   have hno:=indexByte_none hm;have hall:∀ b ∈ l,b ≠ 45:=fun b hb e=>by
    obtain ⟨k,hk⟩:=List.mem_iff_getElem?.1 hb;exact hno k (by rw [hk,e])
   rw [countB_miss _ _ (by rw [hi,hm]),splitB_zero,splitL_none l hall]
   try rfl
  ·
   obtain ⟨i,hio⟩:∃ i:Nat,indexByte l 45 = i:=⟨(indexByte l 45).toNat,by omega⟩;obtain ⟨h1,h2⟩:=indexByte_some hio;have hil:i < l.length:=(List.getElem?_eq_some_iff.1 h1).1;have hl:l = l.take i ++ 45 :: l.drop (i + 1):=by
    conv=>lhs;rw [<- List.take_append_drop i l]
    rw [List.drop_eq_getElem_cons hil,(List.getElem?_eq_some_iff.1 h1).2]
   have hno:∀ b ∈ l.take i,b ≠ 45:=fun b hb e=>by
    obtain ⟨k,hk⟩:=List.mem_iff_getElem?.1 hb;rw [List.getElem?_take] at hk
    split at hk
    ·
     rename_i hki
     exact h2 k hki (by rw [hk,e])
    ·
     cases hk
   have hex:(mkS l).extract (i + (mkS [45]).size) (mkS l).size = mkS (l.drop (i + 1)):=by
    rw [mkS_extract,mkS_size,show (mkS [45]).size = 1 from rfl,List.take_of_length_le (by simp)]
   cases n with
   | zero=>omega
   | succ n =>
    have ih:=split_dash n (l.drop (i + 1)) (by rw [Zj];omega);rw [countB_hit _ _ i (by decide) (by rw [hi,hio]),hex,Nat.add_comm 1,splitB_hit _ _ _ _ i (by rw [hi,hio]),hex,ih,mkS_extract]
    conv=>rhs;rw [hl]
    rw [splitL_at _ _ hno];simp
def okc (later:Bool) (b:UInt8):Bool:=(decide (97 <= b.toNat) && decide (b.toNat <= 122)) || (later && (decide (48 <= b.toNat) && decide (b.toNat <= 57)))
def partOk (later:Bool) (p:List UInt8):Bool:=!p.isEmpty && (decide (p.length <= 8) && p.all (okc later))
theorem lang_parts:∀ (l:List UInt8) (later:Bool) (n:Nat),n <= 8 -> ∀ h t,splitL l = h :: t -> langGo later n l = (decide (0 < n + h.length) && (decide (n + h.length <= 8) && (h.all (okc later) && t.all (partOk true))))
 | [],later,n,hn,h,t,hs=>by
  rw [splitL] at hs;cases hs;rw [langGo];simp;intro _;exact hn
 | b :: l,later,n,hn,h,t,hs=>by
  rw [splitL] at hs;rw [langGo];by_cases hb:b = 45
  ·
   rw [if_pos hb] at hs;rw [if_pos hb];cases hs;cases hl:splitL l with
   | nil=>exact absurd hl (splitL_ne l)
   | cons h2 t2 =>
    rw [lang_parts l true 0 (by omega) h2 t2 hl,List.all_cons];have:partOk true h2 = (decide (0 < 0 + h2.length) && (decide (0 + h2.length <= 8) && h2.all (okc true))):=by
     unfold partOk;rw [Nat.zero_add];cases h2 <;> simp
    rw [this];simp only [List.length_nil,Nat.add_zero,List.all_nil,Bool.true_and,dT hn,Bool.and_assoc]
  ·
   rw [if_neg hb] at hs;rw [if_neg hb];cases hl:splitL l with
   | nil=>exact absurd hl (splitL_ne l)
   | cons h2 t2 =>
    rw [hl] at hs;cases hs;have hc:((decide (97 <= b.toNat) && decide (b.toNat <= 122)) || (later && (decide (48 <= b.toNat) && decide (b.toNat <= 57)))) = okc later b:=rfl;rw [hc,List.all_cons];cases ho:okc later b with
    | false=>simp
    | true =>
     rw [if_pos rfl];by_cases h8:n < 8
     ·
      rw [lang_parts l later (n + 1) (by omega) h2 _ hl,dT h8];rw [Zc,show n + 1 + h2.length = n + (h2.length + 1) by omega];simp only [Bool.true_and]
     ·
      rw [dF h8];simp;intro _ h9;omega
theorem isLang_parts (s:List UInt8):∀ h t,splitL s = h :: t -> isLang s = ((partOk false h && t.all (partOk true)) && decide (s.length <= 16)):=by
 intro h t hs;unfold isLang;rw [lang_parts s false 0 (by omega) h t hs];congr 1;unfold partOk;rw [Nat.zero_add];cases h <;> simp [Bool.and_assoc]
theorem splitL_count:∀ s:List UInt8,(splitL s).length <= s.length + 1
 | []=>by simp [splitL]
 | b :: l=>by
  have ih:=splitL_count l
  rw [splitL]
  split
  ·
   simp
   exact ih
  ·
   split
   ·
    simp
   ·
    rename_i h t hs
    rw [hs] at ih
    simp at ih |-
    omega
theorem splitL_len:∀ s:List UInt8,∀ x ∈ splitL s,x.length <= s.length
 | [],x,hx=>by
  rw [splitL] at hx
  simp at hx
  subst hx
  simp
 | b :: l,x,hx=>by
  have ih:=splitL_len l
  rw [splitL] at hx
  split at hx
  ·
   rcases List.mem_cons.1 hx with rfl | hx
   ·
    simp
   ·
    have:=ih x hx
    simp
    omega
  ·
   split at hx
   ·
    simp at hx
    subst hx
    simp
   ·
    rename_i h t hs
    rw [hs] at ih
    rcases List.mem_cons.1 hx with rfl | hx
    ·
     have:=ih h (by simp)
     simp
     exact this
    ·
     have:=ih x (by simp [hx])
     simp
     omega
end SplitP
namespace Prg
open Go.RowKit Go.Lib B Rd Utf TermPure LinesPure Tx Env Bld Tc SplitP
open Go.Proofs.YtnplommdgfgboaaGreatDoor.Ref5 (termV Fits tripleV FitsT isTriple_eq)
theorem runes_all (p:Nat -> Bool) (hp:∀ c,128 <= c -> p c = false):∀ (n:Nat) (s:List UInt8),s.length <= n -> (runes s).all p = s.all (fun b=>p b.toNat)
 | n,[],_=>rfl
 | 0,b :: t,h=>by simp at h
 | n + 1,b :: t,h=>by
  simp at h;by_cases hb:b.toNat < 128
  ·
   rw [runes_ascii b t hb,List.all_cons,List.all_cons,runes_all p hp n t h]
  ·
   have hd:128 <= (decodeL (b :: t)).1:=by
    have:=decodeL_drop (mkS (b :: t)) 0;rw [show (mkS (b :: t)).data.toList.drop 0 = b :: t from rfl] at this;rw [this];exact (decode_high (mkS (b :: t)) 0 (by rw [mkS_size];simp) (by show 128 <= b.toNat;omega)).1
   rw [runes_step _ (by simp),List.all_cons,List.all_cons,hp _ hd,hp _ (by omega)]
   try rfl
theorem isLabel_calls (s:List UInt8) (hs:s.length <= 70368744177664) (w:World) :
  Calls Tryz.prog 192 #[.string (mkS s)] w fun e w'=>e = .returned (.bool (isLabel s))/\Below w.heap.size w w':=by
 have z:=mkS_size s;have zt:=mkS_toList s;have HI:Hid (isLabel s = (decide (s ≠ []) && (decide (s.length <= 8) && (runes s).all alnum))):=Zz (by
  rw [runes_all alnum (fun c h=>by unfold alnum;simp;omega) s.length s (lR _)];rfl)
 have HA:=Zz (fun w=>all_calls s 222 #[] alnum w (holds_label w));by_cases h0:s = []
 ·
  subst h0;go_enter func192,ntmps192;go_wp2;go_ret;exact ⟨rfl,bR _ _⟩
 ·
  have hE:s.isEmpty = false:=by cases s with
   | nil=>exact absurd rfl h0
   | cons b t=>rfl
  by_cases h1:s.length <= 8
  ·
   have e1:decide ((s.length:Int) <= 8) = true:=dT (by omega);have HI2:=Zz (HI.o.trans (show _ = (runes s).all alnum by rw [dT h0,dT h1];simp));clear HI;go_enter func192,ntmps192;go_wp2_with fail;refine (HA.o _).mono ?_;rintro e w2 ⟨rfl,hb2⟩;have HB2:=Zz hb2;clear hb2;generalize (runes s).all alnum = q at *;cases q
   all_goals go_wp2
   all_goals go_ret
   all_goals exact ⟨ret_bool (by first | (rw [HI2.o];done) | (rw [HI2.o];rfl)),HB2.o⟩
  ·
   have e1:decide ((s.length:Int) <= 8) = false:=dF (by omega);have HI2:=Zz (HI.o.trans (show _ = false by rw [dF h1];simp));clear HI;go_enter func192,ntmps192;go_wp2;go_ret;exact ⟨ret_bool HI2.o.symm,bR _ _⟩
def langR (later:Bool) (c:Nat):Bool:=(decide (97 <= c) && decide (c <= 122)) || (later && (decide (48 <= c) && decide (c <= 57)))
theorem lang1_calls (c k B:Nat) (w:World) (hcell:w.cell? ⟨B,0,none⟩ = some (.int .i64 (k:Int))) :
  Calls Tryz.prog 226 #[.int .i32 (c:Int),.pointer (some ⟨B,0,none⟩)] w fun e w'=>e = .returned (.bool (langR (decide (0 < k)) c))/\w = w':=by
 have HL:Hid (langR (decide (0 < k)) c = ((decide (97 <= c) && decide (c <= 122)) || (decide (0 < k) && (decide (48 <= c) && decide (c <= 57))))):=Zz rfl;go_enter func226,ntmps226;go_wp2_with fail;refine (small1_calls c _).mono ?_;rintro e w1 ⟨rfl,rfl⟩;generalize (decide (97 <= c) && decide (c <= 122)) = q at *;cases q
 ·
  by_cases hk:0 < k
  ·
   have e1:decide (0 < k) = true:=dT hk;have i1:(0:Int) < (k:Int):=by omega
   rw [e1] at HL;go_wp2_with fail;refine (digit1_calls c _).mono ?_;rintro e w1 ⟨rfl,rfl⟩;generalize (decide (48 <= c) && decide (c <= 57)) = r at *;cases r
   all_goals go_wp2
   all_goals go_ret
   all_goals exact ⟨ret_bool (by rw [e1,HL.o];rfl),rfl⟩
  ·
   have e1:decide (0 < k) = false:=dF hk;have i1:¬ (0:Int) < (k:Int):=by omega
   rw [e1] at HL;go_wp2;go_ret;exact ⟨ret_bool (by rw [e1,HL.o];rfl),rfl⟩
 ·
  go_wp2;go_ret;exact ⟨ret_bool (by rw [HL.o];rfl),rfl⟩
theorem holds_lang (w:World) (k B:Nat) (hB:B < w.heap.size) (hcell:w.cell? ⟨B,0,none⟩ = some (.int .i64 (k:Int))) :
  Holds w 226 #[.pointer (some ⟨B,0,none⟩)] (langR (decide (0 < k))):=
 ⟨enters_of func226 (by kernel_rfl) rfl,fun W x hx hb=>(lang1_calls x k B W ((hb.cell (p:=⟨B,0,none⟩) hB).trans hcell)).mono fun e w' ⟨h1,h2⟩=>⟨h1,h2 ▸ bR _ _⟩⟩
theorem langR_all (later:Bool) (s:List UInt8):(runes s).all (langR later) = s.all (okc later):=by
 rw [runes_all (langR later) (fun c h=>by unfold langR;simp;omega) s.length s (lR _)]
 try rfl
def partsOk:Nat -> List (List UInt8) -> Bool
 | _,[]=>true
 | k,p :: t=>partOk (decide (0 < k)) p && partsOk (k + 1) t
theorem partsOk_later:∀ (t:List (List UInt8)) (k:Nat),0 < k -> partsOk k t = t.all (partOk true)
 | [],_,_=>rfl
 | p :: t,k,h=>by rw [partsOk,List.all_cons,partsOk_later t (k + 1) (by omega),dT h]
theorem isLang_eq (s:List UInt8):isLang s = (partsOk 0 (splitL s) && decide (s.length <= 16)):=by
 cases hs:splitL s with
 | nil=>exact absurd hs (splitL_ne s)
 | cons h t=>rw [isLang_parts s h t hs,partsOk,partsOk_later t 1 (by decide)];rfl
theorem split_calls (s:List UInt8) (hs:s.length <= 4294967000) (w:World) (he:Env w) :
  Calls Tryz.prog 225 #[.string (mkS s),.string (mkS [45])] w fun e w'=>e = .returned (.slice (some ⟨w.heap.size,0,none⟩) (splitL s).length (splitL s).length)/\w.alloc (.cells (((splitL s).map mkS).map Value.string).toArray 9) = w':=by
 obtain ⟨m,hm⟩:=he.len;refine (Tryz.strings_Split (mkS s) (mkS [45]) m w (by rw [mkS_size];omega) hm (by decide)).mono ?_;rintro e w' ⟨h1,h2⟩;have h3:=split_dash s.length s (lR _);have h4:countB (mkS s) (mkS [45]) + 1 = (splitL s).length:=by
  have:=splitB_all (mkS [45]) (by decide) 0 _ (mkS s) rfl;rw [h3,List.length_map] at this;exact this.symm
 rw [h4] at h1;rw [h3] at h2;exact ⟨h1,h2.symm⟩
theorem isLang_calls (s:List UInt8) (hs:s.length <= 4294967000) (w:World) (he:Env w) :
  Calls Tryz.prog 193 #[.string (mkS s)] w fun e w'=>e = .returned (.bool (isLang s))/\Below w.heap.size w w':=by
 have HL:=Zz (isLang_eq s);have HSp:=Zz (split_calls s hs w he);have z:=mkS_size s;have hcells:∀ j (h:j < (splitL s).length),(w.alloc (.cells (((splitL s).map mkS).map Value.string).toArray 9)).cell? ⟨w.heap.size,j,none⟩ = some (.string (mkS ((splitL s)[j]))):=fun j h=>by
  unfold World.cell?;dsimp only;rw [Kd.heap_new];simp;exact ⟨_,Zg h,rfl⟩
 have HC0:=Zz hcells;have hpl:∀ x ∈ splitL s,x.length <= 70368744177664:=fun x hx=>by
  have:=splitL_len s x hx;omega
 have HPL:=Zz hpl;have hns:(splitL s).length <= s.length + 1:=splitL_count s;have HB0:=Zz (bel_alloc (bR w.heap.size w) (.cells (((splitL s).map mkS).map Value.string).toArray 9));clear he hcells hpl;generalize splitL s = P at *;generalize ((P.map mkS).map Value.string).toArray = C at *;go_enter func193,ntmps193;go_wp2_with fail;refine HSp.o.mono ?_;rintro e w1 ⟨rfl,rfl⟩;clear HSp;go_wp2;go_loopw [8] (fun vi wr=>∃ k:Nat,k <= P.length/\vi = .int .i64 k/\Hid (Below w.heap.size w wr)/\Hid (w.heap.size < wr.heap.size)/\Hid (∀ j (h:j < P.length),wr.cell? ⟨w.heap.size,j,none⟩ = some (.string (mkS P[j])))/\Hid (partsOk 0 P = partsOk k (P.drop k))) (fun vi _=>P.length - (intOf vi).toNat)
 case atStart=>exact ⟨0,by omega,rfl,HB0,Zz (by simp),HC0,Zz rfl⟩
 case round =>
  obtain ⟨k,hk,rfl,HB,HZ,HC,HP⟩:=hrel;by_cases hlt:k < P.length
  ·
   have hd:decide (k < P.length) = true:=dT hlt;have ik:(k:Int) < (P.length:Int):=by omega
   have ik0:(0:Int) <= (k:Int):=by omega
   obtain ⟨x,hx0⟩:∃ x,P[k] = x:=⟨_,rfl⟩;have hcell:=HC.o k hlt;rw [hx0] at hcell;have HD:Hid (partsOk k (P.drop k) = (partOk (decide (0 < k)) x && partsOk (k + 1) (P.drop (k + 1)))):=Zz (by rw [List.drop_eq_getElem_cons hlt,hx0];rfl);have hxl:=HPL.o x (by rw [<- hx0];exact Zm hlt);have zx:=mkS_size x;have zxt:=mkS_toList x;have HPx:Hid (partOk (decide (0 < k)) x = (!x.isEmpty && (decide (x.length <= 8) && (runes x).all (langR (decide (0 < k)))))):=Zz (by rw [langR_all];rfl);have hw1:wr.heap.size < (wr.alloc (.cells #[.int .i64 (k:Int)] 3)).heap.size:=by simp
   have hbox:(wr.alloc (.cells #[.int .i64 (k:Int)] 3)).cell? ⟨wr.heap.size,0,none⟩ = some (.int .i64 (k:Int)):=by
    unfold World.cell?;dsimp only;rw [Kd.heap_new]
    try rfl
   have HA:=Zz (all_calls x 226 #[.pointer (some ⟨wr.heap.size,0,none⟩)] (langR (decide (0 < k))) (wr.alloc (.cells #[.int .i64 (k:Int)] 3)) (holds_lang _ k wr.heap.size hw1 hbox));have HB1:=Zz (bel_alloc HB.o (.cells #[.int .i64 (k:Int)] 3));have HNo:Hid (partOk (decide (0 < k)) x = false -> isLang s = false):=Zz (fun h=>by rw [HL.o,HP.o,HD.o,h];rfl);have HYes:Hid (partOk (decide (0 < k)) x = true -> partsOk 0 P = partsOk (k + 1) (P.drop (k + 1))):=Zz (fun h=>by rw [HP.o,HD.o,h];rfl);have HZ':=HZ.o;clear hx0 hw1 hbox HP HD;by_cases he:x = []
   ·
    have HF:=Zz (HNo.o (by rw [HPx.o,he];rfl));have hE:x.isEmpty = true:=by rw [he];rfl
    clear HA HNo HYes HPx he;go_wp2;go_ret;exact ⟨ret_bool HF.o.symm,HB1.o⟩
   ·
    have hE:x.isEmpty = false:=by cases x with
     | nil=>exact absurd rfl he
     | cons b t=>rfl
    by_cases h8:x.length <= 8
    ·
     have e8:decide ((8:Int) < (x.length:Int)) = false:=dF (by omega);have HPx2:Hid (partOk (decide (0 < k)) x = (runes x).all (langR (decide (0 < k)))):=Zz (by rw [HPx.o,hE,dT h8];simp);clear HPx;go_wp2_with fail;refine HA.o.mono ?_;rintro e w3 ⟨rfl,hb3⟩;have HB3:=Zz (bel_step HB1.o hb3);have HC3:Hid (∀ j (h:j < P.length),w3.cell? ⟨w.heap.size,j,none⟩ = some (.string (mkS P[j]))):=Zz (fun j h=>by
      rw [(bcell hb3).1 _ _ (by simp;omega)];rw [<- HC.o j h];exact (bcell (bel_alloc (bR wr.heap.size wr) _)).1 _ _ HZ')
     have HZ3:Hid (w.heap.size < w3.heap.size):=Zz (by have:=hb3.size;simp at this;omega);clear hb3;cases hq:(runes x).all (langR (decide (0 < k))) with
     | true =>
      have HP3:=Zz (HYes.o (HPx2.o.trans hq));clear hq;go_wp2;go_roundw
      case rel=>exact ⟨k + 1,by omega,by go_num,HB3,HZ3,HC3,HP3⟩
      case measure=>simp [intOf];omega
     | false =>
      have HF:=Zz (HNo.o (HPx2.o.trans hq));clear hq;go_wp2;go_ret;exact ⟨ret_bool HF.o.symm,HB3.o⟩
    ·
     have e8:decide ((8:Int) < (x.length:Int)) = true:=dT (by omega);have HF:=Zz (HNo.o (by rw [HPx.o,dF h8];simp));clear HA HNo HYes HPx;go_wp2;go_ret;exact ⟨ret_bool HF.o.symm,HB1.o⟩
  ·
   obtain rfl:k = P.length:=by omega
   rw [List.drop_length] at HP;have HF:Hid (isLang s = decide ((s.length:Int) <= 16)):=Zz (by
    rw [HL.o,HP.o,partsOk,Bool.true_and,Bool.eq_iff_iff,decide_eq_true_iff,decide_eq_true_iff];omega)
   go_wp2;go_ret;exact ⟨ret_bool HF.o.symm,HB.o⟩
end Prg
end Go.Proofs.YtnplommdgfgboaaGreatDoor
