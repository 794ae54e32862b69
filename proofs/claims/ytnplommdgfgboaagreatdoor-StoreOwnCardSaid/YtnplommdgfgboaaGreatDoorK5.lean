/-
  Texts of the claim, one behind the other: MapT, RefCmp, RefCmp2, Long, SortW, SwapR, Rot, Ins, SymPure, SymL, SymR, SymG1.
-/
import Derived.Test.YtnplommdgfgboaaGreatDoorK4
import Derived.MapKept
import Derived.WideKeyRuns
set_option linter.unusedVariables false
set_option linter.unusedSimpArgs false
namespace Go.Proofs.YtnplommdgfgboaaGreatDoor.MapT
open Go.RowKit B Rd TermPure LinesPure Ref5 Tri
theorem check_int (em:Bool) (d:Nat) (k:Int) (w:World):(Instr.checkKey em (d + 1) 3 (.int .i64 k)).run Tryz.prog w = .ok () w:=by
 have u3:=Tryz.underlying3
 simp [Instr.checkKey,run_underlying u3]
theorem check_str (em:Bool) (d:Nat) (k:ByteArray) (w:World):(Instr.checkKey em (d + 1) 9 (.string k)).run Tryz.prog w = .ok () w:=by
 have u9:=Tryz.underlying9
 simp [Instr.checkKey,run_underlying u9]
theorem check_term (em:Bool) (d:Nat) (x:Term) (w:World):(Instr.checkKey em (d + 2) 24 (.agg #[.int .i64 x.kind,.string (mkS x.text),.string (mkS x.extra)])).run Tryz.prog w = .ok () w:=by
 have u:=Tryz.underlying24
 have a3:=Tryz.isAgg3
 have z3:=Tryz.sizeOf3
 have a9:=Tryz.isAgg9
 have z9:=Tryz.sizeOf9
 have c3:=fun k w=>check_int em d k w
 have c9:=fun k w=>check_str em d k w
 unfold Instr.checkKey
 simp [run_underlying u]
 go_simp
theorem check_tri (em:Bool) (x:Triple) (w:World):(Instr.checkKey em 10000 36 (tripleV x)).run Tryz.prog w = .ok () w:=by
 have u:=Tryz.underlying36
 have a23:=Tryz.isAgg24
 have z23:=Tryz.sizeOf24
 have c:=fun (x:Term) w=>check_term em 9997 x w
 unfold tripleV
 rw [show (10000:Nat) = 9999 + 1 from rfl]
 unfold Instr.checkKey
 simp [run_underlying u]
 go_simp
theorem equal_tri (x y:Triple) (w:World):(Op.equal 36 (tripleV x) (tripleV y)).run Tryz.prog w = .ok (decide (x = y)) w:=by
 have h:=TriEq.run_eq_tri x y w
 unfold tripleV at *
 rw [run_eql_struct] at h
 unfold Op.equal Op.maxDepth
 generalize (Op.equalIn 10000 36 _ _).run Tryz.prog w = r at *
 cases r with
 | ok b w' =>
  simp [Result.andThen] at h ⊢
  exact h
 | _=>simp [Result.andThen] at h
theorem ask_tri (t:Triple) (w:World):∀ (es:List MapEntry) (T:List Triple) (i:Nat),es.map (fun e=>(e.key,e.val)) = T.map (fun t=>(tripleV t,Value.bool true)) →
  ∃ r,(Instr.findAsking 36 (tripleV t) es i).run Tryz.prog w = .ok r w∧((t ∈ T∧∃ j,r = some (j,.bool true)) ∨ (t ∉ T∧r = none))
 | [],[],i,_=>⟨none,by simp [Instr.findAsking],.inr ⟨by simp,rfl⟩⟩
 | [],_ :: _,_,h=>by simp at h
 | _ :: _,[],_,h=>by simp at h
 | e :: es,x :: T,i,h=>by
  simp at h
  obtain ⟨⟨h1,h2⟩,h3⟩:=h
  have he:=equal_tri t x w
  rw [← h1] at he
  by_cases hx:t = x
  ·
   rw [decide_eq_true hx] at he
   refine ⟨some (i,.bool true),?_,.inl ⟨by simp [hx],i,rfl⟩⟩
   simp [Instr.findAsking,he,h2]
  ·
   rw [decide_eq_false hx] at he
   obtain ⟨r,hr,hc⟩:=ask_tri t w es T (i + 1) (by simpa using h3)
   refine ⟨r,by simp [Instr.findAsking,he,hr],?_⟩
   simpa [hx] using hc
theorem find_tri (t:Triple) (w:World) (es:List MapEntry) (T:List Triple) (h:es.map (fun e=>(e.key,e.val)) = T.map (fun t=>(tripleV t,Value.bool true))) :
  ∃ r,(Instr.findKey 36 (tripleV t) es).run Tryz.prog w = .ok r w∧((t ∈ T∧∃ j,r = some (j,.bool true)) ∨ (t ∉ T∧r = none)):=by
 rw [show (Instr.findKey 36 (tripleV t) es).run Tryz.prog w = (Instr.findAsking 36 (tripleV t) es).run Tryz.prog w from run_findKey_eq _ (by kernel_rfl) _ _]
 exact ask_tri t w es T 0 h
def MapAt (w:World) (b:Nat) (T:List Triple):Prop:=∃ es clock,w.heap[b]? = some (.map es clock)∧es.toList.map (fun e=>(e.key,e.val)) = T.map (fun t=>(tripleV t,Value.bool true))
theorem MapAt.new (w:World):MapAt (w.alloc (.map #[] 0)) w.heap.size []:=⟨#[],0,Kd.heap_new _ _,rfl⟩
theorem MapAt.lt {w:World} {b:Nat} {T:List Triple} (h:MapAt w b T):b < w.heap.size:=by
 obtain ⟨es,c,h1,_⟩:=h
 exact (Array.getElem?_eq_some_iff.1 h1).1
theorem MapAt.moved {w w':World} {b:Nat} {T:List Triple} (h:MapAt w b T) (hm:w'.heap[b]? = w.heap[b]?):MapAt w' b T:=by
 obtain ⟨es,c,h1,h2⟩:=h
 exact ⟨es,c,hm.trans h1,h2⟩
theorem MapAt.below {w w':World} {b:Nat} {T:List Triple} (h:MapAt w b T) (hb:Below w.heap.size w w'):MapAt w' b T:=h.moved (hb.block b h.lt)
theorem run_look {w:World} {b:Nat} {T:List Triple} (h:MapAt w b T) (t:Triple):(Instr.lookup 138 (.map (some b)) (tripleV t) false).run Tryz.prog w = .ok (.bool (decide (t ∈ T))) w:=by
 obtain ⟨es,clock,hb,he⟩:=h
 obtain ⟨r,hr,hc⟩:=find_tri t w es.toList T he
 have hk:=fun em=>check_tri em t w
 have hz:(zeroValue 4).run Tryz.prog w = .ok (.bool false) w:=Tryz.zeroValue4 w
 rcases hc with ⟨h1,j,rfl⟩ | ⟨h1,rfl⟩
 ·
  simp [Instr.lookup,run_underlying Tryz.underlying138,MapKept.run_getObj_map hb,MapKept.run_setObj_map _ hb,hk,hr,h1]
 ·
  simp [Instr.lookup,run_underlying Tryz.underlying138,MapKept.run_getObj_map hb,MapKept.run_setObj_map _ hb,hk,hr,h1,hz]
theorem run_put {w:World} {b:Nat} {T:List Triple} (h:MapAt w b T) (t:Triple) (ht:t ∉ T):∃ w',(Instr.mapUpdate 138 (.map (some b)) (tripleV t) (.bool true)).run Tryz.prog w = .ok () w'∧MapAt w' b (T ++ [t])∧w.grownBy w' (some b):=by
 obtain ⟨es,clock,hb,he⟩:=h
 obtain ⟨r,hr,hc⟩:=find_tri t w es.toList T he
 have hk:=fun em=>check_tri em t w
 rcases hc with ⟨h1,j,rfl⟩ | ⟨h1,rfl⟩
 ·
  exact absurd h1 ht
 ·
  have hlt:b < w.heap.size:=(Array.getElem?_eq_some_iff.1 hb).1
  refine ⟨{ w with heap:=w.heap.setIfInBounds b (.map (es.push { key:=tripleV t,val:=.bool true,born:=clock }) (clock + 1)) },?_,⟨es.push { key:=tripleV t,val:=.bool true,born:=clock },clock + 1,?_,?_⟩,?_⟩
  ·
   simp [Instr.mapUpdate,run_underlying Tryz.underlying138,MapKept.run_getObj_map hb,MapKept.run_setObj_map _ hb,hk,hr]
  ·
   simp [hlt]
  ·
   simp [he]
  ·
   exact ⟨rfl,rfl,rfl,by simp,fun k hk hne=>by
    have hkb:b ≠ k:=fun e=>hne (by rw [e])
    simp [Array.getElem?_setIfInBounds,hkb]⟩
end Go.Proofs.YtnplommdgfgboaaGreatDoor.MapT
namespace Go.Proofs.YtnplommdgfgboaaGreatDoor.RefCmp
open Go.RowKit Go.Lib B Rd Utf TermPure LinesPure Tx Env Tri SortP Print Cmp
def nth (k:Nat):Nat:=[34,92,10,13,9,8,12].getD k 0
theorem one_byte (s:List UInt8) (k:Nat) (h:k < s.length):(mkS s).extract k (k + 1) = mkS [s[k]]:=by
 rw [mkS_extract,show k + 1 - k = 1 by omega,List.drop_eq_getElem_cons h,List.take_succ_cons,List.take_zero]
set_option maxHeartbeats 6400000 in
set_option maxRecDepth 100000 in
theorem escaped_calls (s:List UInt8) (hs:s.length ≤ 1099511627776) (w:World) :
  Calls Tryz.prog 84 #[.string (mkS s)] w fun e w'=>e = .returned (.string (mkS (s.flatMap escB)))∧Below w.heap.size w w':=by
 have zs:=mkS_size s
 go_enter Tryz.func84,Tryz.ntmps84
 go_wp2
 go_loopw [6,7] (fun vo vi wr=>∃ (k:Nat) (out:List UInt8),k ≤ s.length∧vi = .int .i64 k∧vo = .string (mkS out)∧Hid (out = (s.take k).flatMap escB)∧Hid (Below w.heap.size w wr)) (fun _ vi _=>s.length - (intOf vi).toNat)
 case atStart=>exact ⟨0,[],by omega,rfl,rfl,Lib.hid rfl,Lib.hid (Below.refl _ _)⟩
 case round =>
  obtain ⟨k,out,hk,rfl,rfl,HO,HW⟩:=hrel
  have zo:=mkS_size out
  by_cases hlt:k < s.length
  ·
   have hd:decide (k < s.length) = true:=decide_eq_true hlt
   have ik:(k:Int) < (s.length:Int):=by omega
   have hlen:out.length ≤ 6 * s.length:=by rw [HO.out];exact Nat.le_trans (Show.flat_len _) (by rw [List.length_take];omega)
   have HT:=Lib.hid (Show.flat_take s k hlt)
   have H1:=Lib.hid (one_byte s k hlt)
   obtain ⟨b,hb⟩:∃ b,s[k] = b:=⟨_,rfl⟩
   have hks:k < (mkS s).size:=by rw [zs];exact hlt
   have hg:(mkS s)[k]'hks = b:=(Rd.mkS_get s k hks hlt).trans hb
   rw [hb] at HT H1
   clear hb
   obtain ⟨n,hn⟩:∃ n,n = b.toNat:=⟨_,rfl⟩
   have hn256:n < 256:=by rw [hn];exact b.toNat_lt
   have HN:=Lib.hid hn
   have hbn:b.toNat = n:=hn.symm
   clear hn
   have g0:(⟨#[34,92,10,13,9,8,12]⟩:ByteArray)[0].toNat = 34:=rfl
   have g1:(⟨#[34,92,10,13,9,8,12]⟩:ByteArray)[1].toNat = 92:=rfl
   have g2:(⟨#[34,92,10,13,9,8,12]⟩:ByteArray)[2].toNat = 10:=rfl
   have g3:(⟨#[34,92,10,13,9,8,12]⟩:ByteArray)[3].toNat = 13:=rfl
   have g4:(⟨#[34,92,10,13,9,8,12]⟩:ByteArray)[4].toNat = 9:=rfl
   have g5:(⟨#[34,92,10,13,9,8,12]⟩:ByteArray)[5].toNat = 8:=rfl
   have g6:(⟨#[34,92,10,13,9,8,12]⟩:ByteArray)[6].toNat = 12:=rfl
   have q1:(⟨#[92]⟩:ByteArray).size = 1:=rfl
   have x1:(mkS out ++ (⟨#[92]⟩:ByteArray)).size = out.length + 1:=by rw [ByteArray.size_append,zo,q1]
   have q4:(⟨#[92,117,48,48]⟩:ByteArray).size = 4:=rfl
   have x4:(mkS out ++ (⟨#[92,117,48,48]⟩:ByteArray)).size = out.length + 4:=by rw [ByteArray.size_append,zo,q4]
   go_wp2
   go_loopw [9] (fun v9 wx=>∃ j:Nat,j ≤ 7∧v9 = .int .i64 j∧wx = wr∧Hid (∀ i,i < j → n ≠ nth i)) (fun v9 _=>7 - (intOf v9).toNat)
   case atStart=>exact ⟨0,by omega,rfl,by first | rfl | trivial,Lib.hid (fun i h=>absurd h (by omega))⟩
   case round =>
    obtain ⟨j,hj,rfl,rfl,HJ⟩:=hrel
    have hj8:j = 0 ∨ j = 1 ∨ j = 2 ∨ j = 3 ∨ j = 4 ∨ j = 5 ∨ j = 6 ∨ j = 7:=by omega
    rcases hj8 with rfl | rfl | rfl | rfl | rfl | rfl | rfl | rfl
    ·
     by_cases e:n = 34
     ·
      have hne:((34:Int) != (n:Int)) = false:=by rw [bne_eq_false_iff_eq];omega
      have HE:Hid (escB b = [92,34]):=Lib.hid (by
       obtain rfl:b = 34:=by apply UInt8.toNat_inj.1;rw [hbn,e];rfl
       rfl)
      have HX:Hid (mkS out ++ (⟨#[92]⟩:ByteArray) ++ (⟨#[34,92,110,114,116,98,102]⟩:ByteArray).extract 0 1 = mkS (out ++ [92,34])):=Lib.hid (by
       rw [show (⟨#[34,92,110,114,116,98,102]⟩:ByteArray).extract 0 1 = mkS [34] by decide,mkS_lit,mkS_append,mkS_append]
       simp)
      clear e HJ
      go_wp2
      refine ⟨⟨k + 1,out ++ [92,34],by omega,by go_num,by first | exact (by rw [← HX.out];rfl) | rw [HX.out],Lib.hid (by rw [HT.out,← HO.out,HE.out]),HW⟩,?_⟩
      simp [intOf];omega
     ·
      have hne:((34:Int) != (n:Int)) = true:=by rw [bne_iff_ne];omega
      have HJ2:Hid (∀ i,i < 1 → n ≠ nth i):=Lib.hid (fun i hi=>by
       by_cases h:i < 0
       ·
        exact HJ.out i h
       ·
        obtain rfl:i = 0:=by omega
        exact e)
      clear e HJ
      go_wp2
      go_roundw
      case rel=>exact ⟨1,by omega,by go_num,by first | rfl | trivial,HJ2⟩
      case measure=>simp [intOf]
    ·
     by_cases e:n = 92
     ·
      have hne:((92:Int) != (n:Int)) = false:=by rw [bne_eq_false_iff_eq];omega
      have HE:Hid (escB b = [92,92]):=Lib.hid (by
       obtain rfl:b = 92:=by apply UInt8.toNat_inj.1;rw [hbn,e];rfl
       rfl)
      have HX:Hid (mkS out ++ (⟨#[92]⟩:ByteArray) ++ (⟨#[34,92,110,114,116,98,102]⟩:ByteArray).extract 1 2 = mkS (out ++ [92,92])):=Lib.hid (by
       rw [show (⟨#[34,92,110,114,116,98,102]⟩:ByteArray).extract 1 2 = mkS [92] by decide,mkS_lit,mkS_append,mkS_append]
       simp)
      clear e HJ
      go_wp2
      refine ⟨⟨k + 1,out ++ [92,92],by omega,by go_num,by first | exact (by rw [← HX.out];rfl) | rw [HX.out],Lib.hid (by rw [HT.out,← HO.out,HE.out]),HW⟩,?_⟩
      simp [intOf];omega
     ·
      have hne:((92:Int) != (n:Int)) = true:=by rw [bne_iff_ne];omega
      have HJ2:Hid (∀ i,i < 2 → n ≠ nth i):=Lib.hid (fun i hi=>by
       by_cases h:i < 1
       ·
        exact HJ.out i h
       ·
        obtain rfl:i = 1:=by omega
        exact e)
      clear e HJ
      go_wp2
      go_roundw
      case rel=>exact ⟨2,by omega,by go_num,by first | rfl | trivial,HJ2⟩
      case measure=>simp [intOf]
    ·
     by_cases e:n = 10
     ·
      have hne:((10:Int) != (n:Int)) = false:=by rw [bne_eq_false_iff_eq];omega
      have HE:Hid (escB b = [92,110]):=Lib.hid (by
       obtain rfl:b = 10:=by apply UInt8.toNat_inj.1;rw [hbn,e];rfl
       rfl)
      have HX:Hid (mkS out ++ (⟨#[92]⟩:ByteArray) ++ (⟨#[34,92,110,114,116,98,102]⟩:ByteArray).extract 2 3 = mkS (out ++ [92,110])):=Lib.hid (by
       rw [show (⟨#[34,92,110,114,116,98,102]⟩:ByteArray).extract 2 3 = mkS [110] by decide,mkS_lit,mkS_append,mkS_append]
       simp)
      clear e HJ
      go_wp2
      refine ⟨⟨k + 1,out ++ [92,110],by omega,by go_num,by first | exact (by rw [← HX.out];rfl) | rw [HX.out],Lib.hid (by rw [HT.out,← HO.out,HE.out]),HW⟩,?_⟩
      simp [intOf];omega
     ·
      have hne:((10:Int) != (n:Int)) = true:=by rw [bne_iff_ne];omega
      have HJ2:Hid (∀ i,i < 3 → n ≠ nth i):=Lib.hid (fun i hi=>by
       by_cases h:i < 2
       ·
        exact HJ.out i h
       ·
        obtain rfl:i = 2:=by omega
        exact e)
      clear e HJ
      go_wp2
      go_roundw
      case rel=>exact ⟨3,by omega,by go_num,by first | rfl | trivial,HJ2⟩
      case measure=>simp [intOf]
    ·
     by_cases e:n = 13
     ·
      have hne:((13:Int) != (n:Int)) = false:=by rw [bne_eq_false_iff_eq];omega
      have HE:Hid (escB b = [92,114]):=Lib.hid (by
       obtain rfl:b = 13:=by apply UInt8.toNat_inj.1;rw [hbn,e];rfl
       rfl)
      have HX:Hid (mkS out ++ (⟨#[92]⟩:ByteArray) ++ (⟨#[34,92,110,114,116,98,102]⟩:ByteArray).extract 3 4 = mkS (out ++ [92,114])):=Lib.hid (by
       rw [show (⟨#[34,92,110,114,116,98,102]⟩:ByteArray).extract 3 4 = mkS [114] by decide,mkS_lit,mkS_append,mkS_append]
       simp)
      clear e HJ
      go_wp2
      refine ⟨⟨k + 1,out ++ [92,114],by omega,by go_num,by first | exact (by rw [← HX.out];rfl) | rw [HX.out],Lib.hid (by rw [HT.out,← HO.out,HE.out]),HW⟩,?_⟩
      simp [intOf];omega
     ·
      have hne:((13:Int) != (n:Int)) = true:=by rw [bne_iff_ne];omega
      have HJ2:Hid (∀ i,i < 4 → n ≠ nth i):=Lib.hid (fun i hi=>by
       by_cases h:i < 3
       ·
        exact HJ.out i h
       ·
        obtain rfl:i = 3:=by omega
        exact e)
      clear e HJ
      go_wp2
      go_roundw
      case rel=>exact ⟨4,by omega,by go_num,by first | rfl | trivial,HJ2⟩
      case measure=>simp [intOf]
    ·
     by_cases e:n = 9
     ·
      have hne:((9:Int) != (n:Int)) = false:=by rw [bne_eq_false_iff_eq];omega
      have HE:Hid (escB b = [92,116]):=Lib.hid (by
       obtain rfl:b = 9:=by apply UInt8.toNat_inj.1;rw [hbn,e];rfl
       rfl)
      have HX:Hid (mkS out ++ (⟨#[92]⟩:ByteArray) ++ (⟨#[34,92,110,114,116,98,102]⟩:ByteArray).extract 4 5 = mkS (out ++ [92,116])):=Lib.hid (by
       rw [show (⟨#[34,92,110,114,116,98,102]⟩:ByteArray).extract 4 5 = mkS [116] by decide,mkS_lit,mkS_append,mkS_append]
       simp)
      clear e HJ
      go_wp2
      refine ⟨⟨k + 1,out ++ [92,116],by omega,by go_num,by first | exact (by rw [← HX.out];rfl) | rw [HX.out],Lib.hid (by rw [HT.out,← HO.out,HE.out]),HW⟩,?_⟩
      simp [intOf];omega
     ·
      have hne:((9:Int) != (n:Int)) = true:=by rw [bne_iff_ne];omega
      have HJ2:Hid (∀ i,i < 5 → n ≠ nth i):=Lib.hid (fun i hi=>by
       by_cases h:i < 4
       ·
        exact HJ.out i h
       ·
        obtain rfl:i = 4:=by omega
        exact e)
      clear e HJ
      go_wp2
      go_roundw
      case rel=>exact ⟨5,by omega,by go_num,by first | rfl | trivial,HJ2⟩
      case measure=>simp [intOf]
    ·
     by_cases e:n = 8
     ·
      have hne:((8:Int) != (n:Int)) = false:=by rw [bne_eq_false_iff_eq];omega
      have HE:Hid (escB b = [92,98]):=Lib.hid (by
       obtain rfl:b = 8:=by apply UInt8.toNat_inj.1;rw [hbn,e];rfl
       rfl)
      have HX:Hid (mkS out ++ (⟨#[92]⟩:ByteArray) ++ (⟨#[34,92,110,114,116,98,102]⟩:ByteArray).extract 5 6 = mkS (out ++ [92,98])):=Lib.hid (by
       rw [show (⟨#[34,92,110,114,116,98,102]⟩:ByteArray).extract 5 6 = mkS [98] by decide,mkS_lit,mkS_append,mkS_append]
       simp)
      clear e HJ
      go_wp2
      refine ⟨⟨k + 1,out ++ [92,98],by omega,by go_num,by first | exact (by rw [← HX.out];rfl) | rw [HX.out],Lib.hid (by rw [HT.out,← HO.out,HE.out]),HW⟩,?_⟩
      simp [intOf];omega
     ·
      have hne:((8:Int) != (n:Int)) = true:=by rw [bne_iff_ne];omega
      have HJ2:Hid (∀ i,i < 6 → n ≠ nth i):=Lib.hid (fun i hi=>by
       by_cases h:i < 5
       ·
        exact HJ.out i h
       ·
        obtain rfl:i = 5:=by omega
        exact e)
      clear e HJ
      go_wp2
      go_roundw
      case rel=>exact ⟨6,by omega,by go_num,by first | rfl | trivial,HJ2⟩
      case measure=>simp [intOf]
    ·
     by_cases e:n = 12
     ·
      have hne:((12:Int) != (n:Int)) = false:=by rw [bne_eq_false_iff_eq];omega
      have HE:Hid (escB b = [92,102]):=Lib.hid (by
       obtain rfl:b = 12:=by apply UInt8.toNat_inj.1;rw [hbn,e];rfl
       rfl)
      have HX:Hid (mkS out ++ (⟨#[92]⟩:ByteArray) ++ (⟨#[34,92,110,114,116,98,102]⟩:ByteArray).extract 6 7 = mkS (out ++ [92,102])):=Lib.hid (by
       rw [show (⟨#[34,92,110,114,116,98,102]⟩:ByteArray).extract 6 7 = mkS [102] by decide,mkS_lit,mkS_append,mkS_append]
       simp)
      clear e HJ
      go_wp2
      refine ⟨⟨k + 1,out ++ [92,102],by omega,by go_num,by first | exact (by rw [← HX.out];rfl) | rw [HX.out],Lib.hid (by rw [HT.out,← HO.out,HE.out]),HW⟩,?_⟩
      simp [intOf];omega
     ·
      have hne:((12:Int) != (n:Int)) = true:=by rw [bne_iff_ne];omega
      have HJ2:Hid (∀ i,i < 7 → n ≠ nth i):=Lib.hid (fun i hi=>by
       by_cases h:i < 6
       ·
        exact HJ.out i h
       ·
        obtain rfl:i = 6:=by omega
        exact e)
      clear e HJ
      go_wp2
      go_roundw
      case rel=>exact ⟨7,by omega,by go_num,by first | rfl | trivial,HJ2⟩
      case measure=>simp [intOf]
    ·
     have m0:=HJ.out 0 (by omega)
     have m1:=HJ.out 1 (by omega)
     have m2:=HJ.out 2 (by omega)
     have m3:=HJ.out 3 (by omega)
     have m4:=HJ.out 4 (by omega)
     have m5:=HJ.out 5 (by omega)
     have m6:=HJ.out 6 (by omega)
     simp only [nth,List.getD_cons_zero,List.getD_cons_succ] at m0 m1 m2 m3 m4 m5 m6
     by_cases h3:n < 32 ∨ n = 127
     ·
      have HE:=Lib.hid (Show.esc_hex HN.out h3 m5 m4 m2 m6 m3)
      have H1x:=Lib.hid (Show.hexS (n / 16) (by omega))
      have H2x:=Lib.hid (Show.hexS (n % 16) (by omega))
      have i0:(0:Int) ≤ (n:Int):=by omega
      have i1:(n:Int) ≤ 127:=by omega
      have hor:(decide ((n:Int) < 32) = true) ∨ (decide ((n:Int) < 32) = false∧((n:Int) == 127) = true):=by
       by_cases h:n < 32
       ·
        exact .inl (decide_eq_true (by omega))
       ·
        exact .inr ⟨decide_eq_false (by omega),by rw [beq_iff_eq];omega⟩
      clear h3 m0 m1 m2 m3 m4 m5 m6 HJ
      rcases hor with d1 | ⟨d1,d2⟩
      all_goals
       go_wp2
       go_quiet (fail)
       go_wp2
       refine ⟨⟨k + 1,out ++ [92,117,48,48,hexD (n / 16),hexD (n % 16)],by omega,by go_num,by rw [H1x.out,H2x.out,mkS_lit,mkS_append,mkS_append,mkS_append];simp,Lib.hid (by rw [HT.out,← HO.out,HE.out]),Lib.hid (bel_drewN HW.out _)⟩,?_⟩
       simp [intOf];omega
     ·
      have HE:=Lib.hid (Show.esc_none HN.out (by omega) (by omega) m0 m1)
      have d1:decide ((n:Int) < 32) = false:=decide_eq_false (by omega)
      have d2:((n:Int) == 127) = false:=by rw [beq_eq_false_iff_ne];omega
      clear h3 m0 m1 m2 m3 m4 m5 m6 HJ
      go_wp2
      refine ⟨⟨k + 1,out ++ [b],by omega,by go_num,by rw [H1.out,mkS_append],Lib.hid (by rw [HT.out,← HO.out,HE.out]),HW⟩,?_⟩
      simp [intOf];omega
  ·
   have hd:decide (k < s.length) = false:=decide_eq_false hlt
   obtain rfl:k = s.length:=by omega
   have HO':Hid (out = s.flatMap escB):=Lib.hid (by have:=HO.out;rwa [List.take_length] at this)
   clear HO
   go_wp2
   go_ret
   exact ⟨ret_str (by rw [HO'.out]),HW.out⟩
end Go.Proofs.YtnplommdgfgboaaGreatDoor.RefCmp
namespace Go.Proofs.YtnplommdgfgboaaGreatDoor.RefCmp
open Go.RowKit Go.Lib B Rd Utf TermPure LinesPure Tx Env Tri SortP Print Cmp
set_option maxHeartbeats 1600000 in
theorem show4_calls (t:Term) (ht:SmallM t) (w:World) :
  Calls Tryz.prog 43 #[Ref5.termV t] w fun e w'=>e = .returned (.string (mkS (shown t)))∧Below w.heap.size w w':=by
 obtain ⟨kind,x,ex⟩:=t
 obtain ⟨hx,hex⟩:=ht
 dsimp only at hx hex
 have HQ:=Lib.hid (fun w=>escaped_calls x hx w)
 have hql:=Show.flat_len x
 have zx:=mkS_size x
 have ze:=mkS_size ex
 unfold Ref5.termV
 dsimp only
 have HBX:=Lib.hid (fun k=>Tc.TC.new w ⟨k,x,ex⟩)
 have HBe:=Lib.hid (fun (k:Int)=>bel_alloc (Below.refl w.heap.size w) (.cells #[.int .i64 k,.string (mkS x),.string (mkS ex)] 24))
 by_cases h1:kind = 1
 ·
  subst h1
  have z1:(⟨#[60]⟩:ByteArray).size = 1:=rfl
  have z2:((⟨#[60]⟩:ByteArray) ++ mkS x).size = 1 + x.length:=by rw [ByteArray.size_append,z1,zx]
  have z3:(⟨#[62]⟩:ByteArray).size = 1:=rfl
  go_enter Tryz.func43,Tryz.ntmps43
  go_wp2
  go_ret
  exact ⟨ret_str (by rw [mkS_lit,mkS_lit,mkS_append,mkS_append];rfl),HBe.out _⟩
 have e1:(kind == 1) = false:=by rw [beq_eq_false_iff_ne];exact h1
 by_cases h2:kind = 2
 ·
  subst h2
  have z1:(⟨#[95,58]⟩:ByteArray).size = 2:=rfl
  go_enter Tryz.func43,Tryz.ntmps43
  go_wp2
  go_ret
  exact ⟨ret_str (by rw [mkS_lit,mkS_append];rfl),HBe.out _⟩
 have e2:(kind == 2) = false:=by rw [beq_eq_false_iff_ne];exact h2
 have HS0:Hid (¬ kind = 1∧¬ kind = 2):=Lib.hid ⟨h1,h2⟩
 clear h1 h2
 have HQe:Hid (TermPure.quoted x = 34 :: (x.flatMap escB ++ [34])):=Lib.hid rfl
 generalize x.flatMap escB = q at *
 have zq:=mkS_size q
 have y1:(⟨#[34]⟩:ByteArray).size = 1:=rfl
 have y2:((⟨#[34]⟩:ByteArray) ++ mkS q).size = 1 + q.length:=by rw [ByteArray.size_append,y1,zq]
 have y3:((⟨#[34]⟩:ByteArray) ++ mkS q ++ (⟨#[34]⟩:ByteArray)).size = 1 + q.length + 1:=by rw [ByteArray.size_append,y2,y1]
 have z1:(⟨#[64]⟩:ByteArray).size = 1:=rfl
 have z3:(⟨#[62]⟩:ByteArray).size = 1:=rfl
 have z5:(⟨#[94,94,60]⟩:ByteArray).size = 3:=rfl
 have y4:((⟨#[34]⟩:ByteArray) ++ mkS q ++ (⟨#[34]⟩:ByteArray) ++ (⟨#[64]⟩:ByteArray)).size = 1 + q.length + 1 + 1:=by rw [ByteArray.size_append,y3,z1]
 have y5:((⟨#[34]⟩:ByteArray) ++ mkS q ++ (⟨#[34]⟩:ByteArray) ++ (⟨#[94,94,60]⟩:ByteArray)).size = 1 + q.length + 1 + 3:=by rw [ByteArray.size_append,y3,z5]
 have y6:((⟨#[34]⟩:ByteArray) ++ mkS q ++ (⟨#[34]⟩:ByteArray) ++ (⟨#[94,94,60]⟩:ByteArray) ++ mkS ex).size = 1 + q.length + 1 + 3 + ex.length:=by rw [ByteArray.size_append,y5,ze]
 have HK:Hid (kind = 4 ∨ kind = 5 ∨ (¬ kind = 4∧¬ kind = 5)):=Lib.hid (by omega)
 go_enter Tryz.func43,Tryz.ntmps43
 go_wp2_with fail
 refine (HQ.out _).mono ?_
 rintro e w2 ⟨rfl,hb⟩
 have HB:=Lib.hid (bel_step (HBe.out kind) hb)
 obtain ⟨k0,k1,k2,_,_,_⟩:=(HBX.out kind).below hb
 dsimp only at k0 k1 k2
 clear hb
 rcases HK.out with h4 | h5 | ⟨h4,h5⟩
 ·
  subst h4
  have HS:Hid (shown ⟨4,x,ex⟩ = TermPure.quoted x ++ 64 :: ex):=Lib.hid rfl
  go_wp2
  go_ret
  exact ⟨ret_str (by rw [HS.out,HQe.out,mkS_lit,mkS_lit,mkS_append,mkS_append,mkS_append,mkS_append];simp),HB.out⟩
 ·
  subst h5
  have HS:Hid (shown ⟨5,x,ex⟩ = TermPure.quoted x ++ (94 :: 94 :: 60 :: (ex ++ [62]))):=Lib.hid rfl
  go_wp2
  go_ret
  exact ⟨ret_str (by rw [HS.out,HQe.out,mkS_lit,mkS_lit,mkS_lit,mkS_append,mkS_append,mkS_append,mkS_append,mkS_append];simp),HB.out⟩
 ·
  have e4:(kind == 4) = false:=by rw [beq_eq_false_iff_ne];exact h4
  have e5:(kind == 5) = false:=by rw [beq_eq_false_iff_ne];exact h5
  have HS:Hid (shown ⟨kind,x,ex⟩ = TermPure.quoted x):=Lib.hid (by unfold shown;dsimp only;rw [if_neg HS0.out.1,if_neg HS0.out.2,if_neg h4,if_neg h5])
  clear h4 h5
  go_wp2
  go_ret
  exact ⟨ret_str (by rw [HS.out,HQe.out,mkS_lit,mkS_append,mkS_append];rfl),HB.out⟩
set_option maxHeartbeats 1600000 in
theorem cmp4_calls (a b:Term) (ha:SmallM a) (hb:SmallM b) (w:World):Calls Tryz.prog 17 #[Ref5.termV a,Ref5.termV b] w fun e w'=>e = .returned (.int .i64 (cmpTm a b))∧Below w.heap.size w w':=by
 obtain ⟨k,x,ex⟩:=a
 obtain ⟨k',x',ex'⟩:=b
 have H1:=Lib.hid (fun w=>show4_calls ⟨k,x,ex⟩ ha w)
 have H2:=Lib.hid (fun w=>show4_calls ⟨k',x',ex'⟩ hb w)
 have HV:Hid (cmpTm ⟨k,x,ex⟩ ⟨k',x',ex'⟩ = SortP.cmpL (shown ⟨k,x,ex⟩) (shown ⟨k',x',ex'⟩)):=Lib.hid rfl
 generalize shown ⟨k,x,ex⟩ = S1 at *
 generalize shown ⟨k',x',ex'⟩ = S2 at *
 have HX:=Lib.hid (fun p=>box2 w k x ex k' x' ex' p)
 have HBe:=Lib.hid (bel_alloc (bel_alloc (Below.refl w.heap.size w) (.cells #[.int .i64 k,.string (mkS x),.string (mkS ex)] 24)) (.cells #[.int .i64 k',.string (mkS x'),.string (mkS ex')] 24))
 have a0:=fun p=>(HX.out p).1.1
 have a1:=fun p=>(HX.out p).1.2.1
 have a2:=fun p=>(HX.out p).1.2.2
 have b0:=fun p=>(HX.out p).2.1
 have b1:=fun p=>(HX.out p).2.2.1
 have b2:=fun p=>(HX.out p).2.2.2
 have hl:=less_eq S1 S2
 have he:=beq_eq S1 S2
 have HCases:Hid ((decide (S1 < S2) = true∧SortP.cmpL S1 S2 = -1) ∨ (decide (S1 < S2) = false∧decide (S1 = S2) = true∧SortP.cmpL S1 S2 = 0) ∨ (decide (S1 < S2) = false∧decide (S1 = S2) = false∧SortP.cmpL S1 S2 = 1)):=Lib.hid (by
  rcases SortP.cmpL_three S1 S2 with h | h | h
  ·
   exact .inl ⟨decide_eq_true ((SortP.cmpL_neg S1 S2).1 (by rw [h];decide)),h⟩
  ·
   have:=(SortP.cmpL_zero S1 S2).1 h
   exact .inr (.inl ⟨decide_eq_false (by rw [this];exact List.lt_irrefl _),decide_eq_true this,h⟩)
  ·
   refine .inr (.inr ⟨decide_eq_false (fun h'=>?_),decide_eq_false (fun h'=>?_),h⟩)
   ·
    have:=(SortP.cmpL_neg S1 S2).2 h';omega
   ·
    have:=(SortP.cmpL_zero S1 S2).2 h';omega)
 unfold Ref5.termV
 dsimp only
 clear ha hb
 rcases HCases.out with ⟨c1,c3⟩ | ⟨c1,c2,c3⟩ | ⟨c1,c2,c3⟩
 all_goals
  rw [c1] at hl
  try rw [c2] at he
  have HC3:=Lib.hid c3
  clear c1 c3 HCases
  try clear c2
  go_enter Tryz.func17,Tryz.ntmps17
  go_upto_region 1 with fail
  refine QT.region_all (by kernel_rfl) (by kernel_rfl) ?_
  iterate 1 (go_big_quiet_step (fail))
  go_big_quiet_step (exact QT.Bel.call _ (H1.out _))
  iterate 1 (go_big_quiet_step (fail))
  go_big_quiet_step (exact QT.Bel.call _ (H2.out _))
  repeat (go_big_quiet_step (fail))
  refine wpQuiet_nil ?_
  intro w2 hw'
  obtain ⟨⟨_,hb⟩,rfl⟩:=hw'
  have HB:=Lib.hid (bel_step HBe.out hb)
  clear hb a0 a1 a2 b0 b1 b2
  go_wp2
  go_ret
  exact ⟨by rw [HV.out,HC3.out];rfl,HB.out⟩
set_option maxHeartbeats 3200000 in
set_option maxRecDepth 100000 in
theorem cmp5_calls (a b:Triple) (ha:SmallT a) (hb:SmallT b) (w:World):Calls Tryz.prog 96 #[Ref5.tripleV a,Ref5.tripleV b] w fun e w'=>e = .returned (.int .i64 (cmpT a b))∧Below w.heap.size w w':=by
 have HX:=Lib.hid (fun p=>box18 w a b p)
 have H1:=Lib.hid (fun w=>cmp4_calls a.s b.s ha.1 hb.1 w)
 have H2:=Lib.hid (fun w=>cmp4_calls a.p b.p ha.2.1 hb.2.1 w)
 have H3:=Lib.hid (fun w=>cmp4_calls a.o b.o ha.2.2 hb.2.2 w)
 have HV:Hid (cmpT a b = orI (cmpTm a.s b.s) (cmpTm a.p b.p) (cmpTm a.o b.o)):=Lib.hid rfl
 have HBe:=Lib.hid (bel_alloc (bel_alloc (Below.refl w.heap.size w) (.cells #[.int .i64 a.s.kind,.string (mkS a.s.text),.string (mkS a.s.extra),.int .i64 a.p.kind,.string (mkS a.p.text),.string (mkS a.p.extra),.int .i64 a.o.kind,.string (mkS a.o.text),.string (mkS a.o.extra)] 36)) (.cells #[.int .i64 b.s.kind,.string (mkS b.s.text),.string (mkS b.s.extra),.int .i64 b.p.kind,.string (mkS b.p.text),.string (mkS b.p.extra),.int .i64 b.o.kind,.string (mkS b.o.text),.string (mkS b.o.extra)] 36))
 have HZ:=Lib.hid (show ((w.alloc (.cells #[.int .i64 a.s.kind,.string (mkS a.s.text),.string (mkS a.s.extra),.int .i64 a.p.kind,.string (mkS a.p.text),.string (mkS a.p.extra),.int .i64 a.o.kind,.string (mkS a.o.text),.string (mkS a.o.extra)] 36)).alloc (.cells #[.int .i64 b.s.kind,.string (mkS b.s.text),.string (mkS b.s.extra),.int .i64 b.p.kind,.string (mkS b.p.text),.string (mkS b.p.extra),.int .i64 b.o.kind,.string (mkS b.o.text),.string (mkS b.o.extra)] 36)).heap.size = w.heap.size + 2 by simp)
 generalize cmpTm a.s b.s = v1 at *
 generalize cmpTm a.p b.p = v2 at *
 generalize cmpTm a.o b.o = v3 at *
 obtain ⟨⟨sk,sx,se⟩,⟨pk,px,pe⟩,⟨ok,ox,oe⟩⟩:=a
 obtain ⟨⟨sk',sx',se'⟩,⟨pk',px',pe'⟩,⟨ok',ox',oe'⟩⟩:=b
 unfold Ref5.tripleV
 dsimp only
 clear ha hb
 go_enter Tryz.func96,Tryz.ntmps96
 go_wp2_with fail
 refine (H1.out _).mono ?_
 rintro e w2 ⟨rfl,hb2⟩
 have HB2:=Lib.hid hb2
 clear hb2
 by_cases n1:v1 = 0
 ·
  subst n1
  obtain ⟨⟨a0,a1,a2,a3,a4,a5,a6,a7,a8⟩,b0,b1,b2,b3,b4,b5,b6,b7,b8⟩:=HX.out ⟨w2,HB2.out⟩
  dsimp only at a0 a1 a2 a3 a4 a5 a6 a7 a8 b0 b1 b2 b3 b4 b5 b6 b7 b8
  go_wp2_with fail
  refine (H2.out _).mono ?_
  rintro e w3 ⟨rfl,hb3⟩
  have HB3:=Lib.hid (bel_step HB2.out hb3)
  clear hb3 a0 a1 a2 a3 a4 a5 a6 a7 a8 b0 b1 b2 b3 b4 b5 b6 b7 b8
  by_cases n2:v2 = 0
  ·
   subst n2
   obtain ⟨⟨a0,a1,a2,a3,a4,a5,a6,a7,a8⟩,b0,b1,b2,b3,b4,b5,b6,b7,b8⟩:=HX.out ⟨w3,HB3.out⟩
   dsimp only at a0 a1 a2 a3 a4 a5 a6 a7 a8 b0 b1 b2 b3 b4 b5 b6 b7 b8
   have HV':Hid (orI 0 0 v3 = v3):=Lib.hid rfl
   go_wp2_with fail
   refine (H3.out _).mono ?_
   rintro e w4 ⟨rfl,hb4⟩
   have HB4:=Lib.hid (bel_step HB3.out hb4)
   clear hb4 a0 a1 a2 a3 a4 a5 a6 a7 a8 b0 b1 b2 b3 b4 b5 b6 b7 b8
   go_wp2
   go_ret
   exact ⟨by rw [HV.out,HV'.out];rfl,bel_step HBe.out HB4.out⟩
  ·
   have hn:(v2 == 0) = false:=by rw [beq_eq_false_iff_ne];exact n2
   have HV':Hid (orI 0 v2 v3 = v2):=Lib.hid (by unfold orI;rw [if_neg (by simp),if_pos n2])
   clear n2
   go_wp2
   go_ret
   exact ⟨by rw [HV.out,HV'.out];rfl,bel_step HBe.out HB3.out⟩
 ·
  have hn:(v1 == 0) = false:=by rw [beq_eq_false_iff_ne];exact n1
  have HV':Hid (orI v1 v2 v3 = v1):=Lib.hid (by unfold orI;rw [if_pos n1])
  clear n1
  go_wp2
  go_ret
  exact ⟨by rw [HV.out,HV'.out];rfl,bel_step HBe.out HB2.out⟩
end Go.Proofs.YtnplommdgfgboaaGreatDoor.RefCmp
namespace Go.Proofs.YtnplommdgfgboaaGreatDoor.Long
open Go.RowKit Go.Lib B Rd Utf TermPure LinesPure Tx Env Tri SortP Print Cmp
theorem row_fits {w:World} {ok:Nat → Prop} {l:List Triple} {v:Value} (h:triK.sl.M w ok l [v]):∀ t ∈ l,FitsW3 t:=by
 obtain ⟨A,c,_,_,_,_,hrow⟩:=h
 intro t ht
 obtain ⟨k,hk,rfl⟩:=List.mem_iff_getElem.1 ht
 obtain ⟨_,_,_,h,_⟩:=Kd.row_at hrow hk
 exact h.2
structure C9 (w:World) (g o:Nat) (t:Triple):Prop where
 c0:w.cell? ⟨g,o,none⟩ = some (.int .i64 t.s.kind)
 c1:w.cell? ⟨g,o + 1,none⟩ = some (.string (mkS t.s.text))
 c2:w.cell? ⟨g,o + 2,none⟩ = some (.string (mkS t.s.extra))
 c3:w.cell? ⟨g,o + 3,none⟩ = some (.int .i64 t.p.kind)
 c4:w.cell? ⟨g,o + 4,none⟩ = some (.string (mkS t.p.text))
 c5:w.cell? ⟨g,o + 5,none⟩ = some (.string (mkS t.p.extra))
 c6:w.cell? ⟨g,o + 6,none⟩ = some (.int .i64 t.o.kind)
 c7:w.cell? ⟨g,o + 7,none⟩ = some (.string (mkS t.o.text))
 c8:w.cell? ⟨g,o + 8,none⟩ = some (.string (mkS t.o.extra))
theorem C9.of {w:World} {g o:Nat} {t:Triple} (h:∀ j u,(triL t)[j]? = some u → w.cell? ⟨g,o + j,none⟩ = some u):C9 w g o t:=
 ⟨h 0 _ rfl,h 1 _ rfl,h 2 _ rfl,h 3 _ rfl,h 4 _ rfl,h 5 _ rfl,h 6 _ rfl,h 7 _ rfl,h 8 _ rfl⟩
theorem C9.lt {w:World} {g o:Nat} {t:Triple} (h:C9 w g o t):g < w.heap.size:=World.block_lt_of_cell? w ⟨g,o,none⟩ h.c0
theorem C9.moved {w w':World} {g o:Nat} {t:Triple} (h:C9 w g o t) (hm:w'.heap[g]? = w.heap[g]?):C9 w' g o t:=
 have k:∀ {i v},w.cell? ⟨g,i,none⟩ = some v → w'.cell? ⟨g,i,none⟩ = some v:=fun {i v} hc=>(World.cell?_of_block (a:=⟨g,i,none⟩) hm).trans hc
 ⟨k h.c0,k h.c1,k h.c2,k h.c3,k h.c4,k h.c5,k h.c6,k h.c7,k h.c8⟩
theorem C9.below {w w':World} {g o:Nat} {t:Triple} (h:C9 w g o t) (hb:Below w.heap.size w w'):C9 w' g o t:=h.moved (hb.block g h.lt)
theorem C9.new (w:World) (t:Triple):C9 (w.alloc (.cells (triL t).toArray 36)) w.heap.size 0 t:=C9.of (fun j u hu=>by
 rw [Nat.zero_add,World.cell?,Kd.heap_new]
 simpa using hu)
theorem C9.alloc {w:World} {g o:Nat} {t:Triple} (h:C9 w g o t) (x:Obj):C9 (w.alloc x) g o t:=h.below (bel_alloc (Below.refl _ _) x)
theorem row_cells {w:World} {l:List Triple} {A:Option Addr} {c:Nat} (h:triK.sl.M w (fun k=>k < w.heap.size) l [.slice A l.length c]) (k:Nat) (hk:k < l.length) :
  ∃ b off,A = some ⟨b,off,none⟩∧b < w.heap.size∧∀ i (hi:i < l.length),C9 w b (off + i * 9) l[i]:=by
 obtain ⟨A',c',he,hlc,_,hA,hrow⟩:=h
 obtain ⟨rfl,rfl⟩:A = A'∧c = c':=by simpa using he
 obtain ⟨b,off,hAe,hb,_,hcells⟩:=Kd.row_addr hrow (by omega)
 refine ⟨b,off,hAe,hb,fun i hi=>?_⟩
 obtain ⟨cs,⟨hcs,_⟩,hcell⟩:=hcells i hi
 subst hcs
 exact C9.of hcell
theorem sl_len {w:World} {ok:Nat → Prop} {l:List Triple} {A:Option Addr} {c:Nat} (h:triK.sl.M w ok l [.slice A l.length c]):l.length ≤ 140737488355328:=by
 obtain ⟨_,_,_,_,⟨h,_⟩,_⟩:=h
 exact h
end Go.Proofs.YtnplommdgfgboaaGreatDoor.Long
namespace Go.Proofs.YtnplommdgfgboaaGreatDoor.SortW
open Go.RowKit Go.Lib B Rd Utf TermPure LinesPure Tx Env Tri SortP Print Cmp Long
def put9 (w:World) (g o:Nat) (t:Triple):World:=(((((((((w.setCell ⟨g,o,none⟩ (.int .i64 t.s.kind)).setCell ⟨g,o + 1,none⟩ (.string (mkS t.s.text))).setCell ⟨g,o + 2,none⟩ (.string (mkS t.s.extra))).setCell ⟨g,o + 3,none⟩ (.int .i64 t.p.kind)).setCell ⟨g,o + 4,none⟩ (.string (mkS t.p.text))).setCell ⟨g,o + 5,none⟩ (.string (mkS t.p.extra))).setCell ⟨g,o + 6,none⟩ (.int .i64 t.o.kind)).setCell ⟨g,o + 7,none⟩ (.string (mkS t.o.text))).setCell ⟨g,o + 8,none⟩ (.string (mkS t.o.extra)))
theorem some_set {w:World} {a b:Addr} {v:Value} (h:(w.cell? a).isSome = true):((w.setCell b v).cell? a).isSome = true:=by
 by_cases e:b = a
 ·
  subst e
  rw [World.cell?_setCell_same' _ _ _ h]
  try rfl
 ·
  first
   | (rw [World.cell?_setCell_other _ _ _ _ (fun h=>e h)];exact h)
   | (rw [World.cell?_setCell_other _ _ _ _ (fun h=>e h.symm)];exact h)
theorem same_of {w:World} {a:Addr} {v:Value} (h:(w.cell? a).isSome = true):(w.setCell a v).cell? a = some v:=World.cell?_setCell_same' _ _ _ h
theorem put9_other (w:World) (g o:Nat) (t:Triple) (j:Nat) (h:j < o ∨ o + 9 ≤ j):(put9 w g o t).cell? ⟨g,j,none⟩ = w.cell? ⟨g,j,none⟩:=by
 unfold put9
 iterate 9 rw [World.cell?_setCell_other _ _ _ _ (by simp;try omega)]
theorem put9_frozen (w:World) (g o:Nat) (t:Triple) (a:Addr):(put9 w g o t).frozen? a = w.frozen? a:=by
 unfold put9
 iterate 9 rw [World.frozen?_setCell]
theorem set_grown {w0 w:World} {g:Nat} (h:w0.grownBy w (some g)) (j:Nat) (v:Value):w0.grownBy (w.setCell ⟨g,j,none⟩ v) (some g):=h.trans (grown_setCell w ⟨g,j,none⟩ v)
theorem put9_grown (w:World) (g o:Nat) (t:Triple):w.grownBy (put9 w g o t) (some g):=by
 unfold put9
 iterate 9 refine set_grown ?_ _ _
 exact World.grownBy.refl _ _
theorem put9_same {w:World} {g o:Nat} {t0:Triple} (h:C9 w g o t0) (t:Triple):C9 (put9 w g o t) g o t:=by
 have s0:(w.cell? ⟨g,o,none⟩).isSome = true:=by rw [h.c0];rfl
 have s1:(w.cell? ⟨g,o + 1,none⟩).isSome = true:=by rw [h.c1];rfl
 have s2:(w.cell? ⟨g,o + 2,none⟩).isSome = true:=by rw [h.c2];rfl
 have s3:(w.cell? ⟨g,o + 3,none⟩).isSome = true:=by rw [h.c3];rfl
 have s4:(w.cell? ⟨g,o + 4,none⟩).isSome = true:=by rw [h.c4];rfl
 have s5:(w.cell? ⟨g,o + 5,none⟩).isSome = true:=by rw [h.c5];rfl
 have s6:(w.cell? ⟨g,o + 6,none⟩).isSome = true:=by rw [h.c6];rfl
 have s7:(w.cell? ⟨g,o + 7,none⟩).isSome = true:=by rw [h.c7];rfl
 have s8:(w.cell? ⟨g,o + 8,none⟩).isSome = true:=by rw [h.c8];rfl
 unfold put9
 constructor
 ·
  iterate 8 rw [World.cell?_setCell_other _ _ _ _ (by simp)]
  exact same_of s0
 ·
  iterate 7 rw [World.cell?_setCell_other _ _ _ _ (by simp)]
  exact same_of (some_set s1)
 ·
  iterate 6 rw [World.cell?_setCell_other _ _ _ _ (by simp)]
  exact same_of (some_set (some_set s2))
 ·
  iterate 5 rw [World.cell?_setCell_other _ _ _ _ (by simp)]
  exact same_of (some_set (some_set (some_set s3)))
 ·
  iterate 4 rw [World.cell?_setCell_other _ _ _ _ (by simp)]
  exact same_of (some_set (some_set (some_set (some_set s4))))
 ·
  iterate 3 rw [World.cell?_setCell_other _ _ _ _ (by simp)]
  exact same_of (some_set (some_set (some_set (some_set (some_set s5)))))
 ·
  iterate 2 rw [World.cell?_setCell_other _ _ _ _ (by simp)]
  exact same_of (some_set (some_set (some_set (some_set (some_set (some_set s6))))))
 ·
  iterate 1 rw [World.cell?_setCell_other _ _ _ _ (by simp)]
  exact same_of (some_set (some_set (some_set (some_set (some_set (some_set (some_set s7)))))))
 ·
  exact same_of (some_set (some_set (some_set (some_set (some_set (some_set (some_set (some_set s8))))))))
structure SR (W:World) (g:Nat) (l:List Triple) (w:World):Prop where
 grown:W.grownBy w (some g)
 cells:∀ i (h:i < l.length),C9 w g (i * 9) l[i]
 free:∀ j,j < l.length * 9 → w.frozen? ⟨g,j,none⟩ = false
theorem SR.lt {W w:World} {g:Nat} {l:List Triple} (h:SR W g l w) (hp:0 < l.length):g < w.heap.size:=(h.cells 0 hp).lt
theorem SR.drewN {W w:World} {g:Nat} {l:List Triple} (h:SR W g l w) (n:Nat):SR W g l (w.drewN n):=
 ⟨⟨h.grown.os,h.grown.tape,h.grown.output,h.grown.size,h.grown.block⟩,fun i hi=>(h.cells i hi).moved rfl,h.free⟩
theorem SR.drew {W w:World} {g:Nat} {l:List Triple} (h:SR W g l w):SR W g l w.drew:=h.drewN 1
theorem SR.below {W w w':World} {g:Nat} {l:List Triple} (h:SR W g l w) (hg:g < w.heap.size) (hb:Below w.heap.size w w'):SR W g l w':=
 ⟨h.grown.trans ⟨hb.os,hb.tape,hb.output,hb.size,fun k hk _=>hb.block k hk⟩,fun i hi=>(h.cells i hi).below hb,fun j hj=>(hb.frozen (p:=⟨g,j,none⟩) hg).trans (h.free j hj)⟩
def swapL (l:List Triple) (i j:Nat):List Triple:=(l.set i (l.getD j Ref5.zeroTr)).set j (l.getD i Ref5.zeroTr)
theorem swapL_length (l:List Triple) (i j:Nat):(swapL l i j).length = l.length:=by simp [swapL]
theorem swapL_get (l:List Triple) (i j k:Nat) (hi:i < l.length) (hj:j < l.length):(swapL l i j)[k]? = if k = j then l[i]? else if k = i then l[j]? else l[k]?:=by
 unfold swapL
 rw [List.getElem?_set,List.getElem?_set,List.length_set,List.getD_eq_getElem?_getD,List.getD_eq_getElem?_getD,List.getElem?_eq_getElem hi,List.getElem?_eq_getElem hj]
 by_cases e1:k = j
 ·
  subst e1
  rw [if_pos rfl,if_pos rfl,if_pos hj]
  try rfl
 ·
  rw [if_neg (fun e=>e1 e.symm),if_neg e1]
  by_cases e2:k = i
  ·
   subst e2
   rw [if_pos rfl,if_pos rfl,if_pos hi]
   try rfl
  ·
   rw [if_neg (fun e=>e2 e.symm),if_neg e2]
theorem get_of {l:List Triple} {k:Nat} (h:k < l.length) {x:Triple} (hx:l[k]? = some x):l[k] = x:=by
 rw [List.getElem?_eq_getElem h] at hx
 exact Option.some.inj hx
theorem SR.swap {W w:World} {g:Nat} {l:List Triple} (h:SR W g l w) (i j:Nat) (hi:i < l.length) (hj:j < l.length):SR W g (swapL l i j) (put9 (put9 w g (i * 9) l[j]) g (j * 9) l[i]):=by
 have hlen:=swapL_length l i j
 refine ⟨h.grown.trans ((put9_grown _ _ _ _).trans (put9_grown _ _ _ _)),fun k hk=>?_,fun q hq=>?_⟩
 ·
  have hk':k < l.length:=by omega
  have hget:=swapL_get l i j k hi hj
  have apart:∀ {w:World} {x y:Nat} {t t':Triple},x ≠ y → C9 w g (x * 9) t' → C9 (put9 w g (y * 9) t) g (x * 9) t':=fun {w x y t t'} hne hc=>by
   have far:∀ d,d < 9 → (x * 9 + d < y * 9 ∨ y * 9 + 9 ≤ x * 9 + d):=fun d hd=>by omega
   exact ⟨(put9_other _ _ _ _ _ (far 0 (by omega))).trans hc.c0,(put9_other _ _ _ _ _ (far 1 (by omega))).trans hc.c1,(put9_other _ _ _ _ _ (far 2 (by omega))).trans hc.c2,
    (put9_other _ _ _ _ _ (far 3 (by omega))).trans hc.c3,(put9_other _ _ _ _ _ (far 4 (by omega))).trans hc.c4,(put9_other _ _ _ _ _ (far 5 (by omega))).trans hc.c5,
    (put9_other _ _ _ _ _ (far 6 (by omega))).trans hc.c6,(put9_other _ _ _ _ _ (far 7 (by omega))).trans hc.c7,(put9_other _ _ _ _ _ (far 8 (by omega))).trans hc.c8⟩
  by_cases e1:k = j
  ·
   rw [if_pos e1,List.getElem?_eq_getElem hi] at hget
   rw [get_of hk hget]
   subst e1
   by_cases e3:i = k
   ·
    subst e3
    exact put9_same (put9_same (h.cells i hi) _) _
   ·
    exact put9_same (apart (fun e=>e3 e.symm) (h.cells k hk')) _
  ·
   rw [if_neg e1] at hget
   by_cases e2:k = i
   ·
    rw [if_pos e2,List.getElem?_eq_getElem hj] at hget
    rw [get_of hk hget]
    subst e2
    exact apart e1 (put9_same (h.cells k hk') _)
   ·
    rw [if_neg e2,List.getElem?_eq_getElem hk'] at hget
    rw [get_of hk hget]
    exact apart e1 (apart e2 (h.cells k hk'))
 ·
  rw [put9_frozen,put9_frozen]
  exact h.free q (by rw [hlen] at hq;exact hq)
end Go.Proofs.YtnplommdgfgboaaGreatDoor.SortW
namespace Go.Proofs.YtnplommdgfgboaaGreatDoor.SortW
open Go.RowKit Go.Lib B Rd Utf TermPure LinesPure Tx Env Tri SortP Print Cmp Long
def F (l:List Triple) (a b k q:Nat):Option Triple:=if a ≤ q∧q < a + k then l[q - a + b]? else if b ≤ q∧q < b + k then l[q - b + a]? else l[q]?
theorem F_zero (l:List Triple) (a b q:Nat):F l a b 0 q = l[q]?:=by
 unfold F
 rw [if_neg (by omega),if_neg (by omega)]
theorem F_step {l l':List Triple} {a b n k:Nat} (h1:a + n ≤ b) (h2:b + n ≤ l.length) (hk:k < n) (hlen:l'.length = l.length) (hl:∀ q,l'[q]? = F l a b k q):∀ q,(swapL l' (a + k) (b + k))[q]? = F l a b (k + 1) q:=by
 intro q
 rw [swapL_get l' _ _ _ (by omega) (by omega),hl,hl,hl]
 unfold F
 by_cases e1:q = b + k
 ·
  subst e1
  rw [if_pos rfl,if_neg (by omega),if_neg (by omega),if_neg (by omega),if_pos (by omega)]
  congr 1
  omega
 ·
  rw [if_neg e1]
  by_cases e2:q = a + k
  ·
   subst e2
   rw [if_pos rfl,if_neg (by omega),if_neg (by omega),if_pos (by omega)]
   congr 1
   omega
  ·
   rw [if_neg e2]
   by_cases e3:a ≤ q∧q < a + k
   ·
    rw [if_pos e3,if_pos (by omega)]
   ·
    rw [if_neg e3,if_neg (by omega:¬ (a ≤ q∧q < a + (k + 1)))]
    by_cases e4:b ≤ q∧q < b + k
    ·
     rw [if_pos e4,if_pos (by omega)]
    ·
     rw [if_neg e4,if_neg (by omega)]
theorem F_parts (P X M Y Q l':List Triple) (hXY:X.length = Y.length) (hl:∀ q,l'[q]? = F (P ++ (X ++ (M ++ (Y ++ Q)))) P.length (P.length + X.length + M.length) X.length q):l' = P ++ (Y ++ (M ++ (X ++ Q))):=by
 apply List.ext_getElem?
 intro q
 rw [hl]
 unfold F
 simp only [List.getElem?_append]
 by_cases c1:q < P.length
 ·
  rw [if_neg (by omega),if_neg (by omega)]
  simp only [c1,if_true]
 ·
  by_cases c2:q < P.length + X.length
  ·
   rw [if_pos (by omega)]
   rw [if_neg (by omega),if_neg (by omega),if_neg (by omega),if_pos (by omega),if_neg c1,if_pos (by omega)]
   congr 1
   omega
  ·
   by_cases c3:q < P.length + X.length + M.length
   ·
    rw [if_neg (by omega),if_neg (by omega)]
    rw [if_neg c1,if_neg (by omega),if_pos (by omega),if_neg c1,if_neg (by omega),if_pos (by omega)]
    congr 1
    omega
   ·
    by_cases c4:q < P.length + X.length + M.length + X.length
    ·
     rw [if_neg (by omega),if_pos (by omega)]
     rw [if_neg (by omega),if_pos (by omega),if_neg c1,if_neg (by omega),if_neg (by omega),if_pos (by omega)]
     congr 1
     omega
    ·
     rw [if_neg (by omega),if_neg (by omega)]
     rw [if_neg c1,if_neg (by omega),if_neg (by omega),if_neg (by omega),if_neg c1,if_neg (by omega),if_neg (by omega),if_neg (by omega)]
     congr 1
     omega
theorem SR.free9 {W w:World} {g:Nat} {l:List Triple} (h:SR W g l w) (i:Nat) (hi:i < l.length):w.frozen? ⟨g,i * 9,none⟩ = false∧w.frozen? ⟨g,i * 9 + 1,none⟩ = false∧w.frozen? ⟨g,i * 9 + 2,none⟩ = false∧w.frozen? ⟨g,i * 9 + 3,none⟩ = false∧w.frozen? ⟨g,i * 9 + 4,none⟩ = false∧w.frozen? ⟨g,i * 9 + 5,none⟩ = false∧w.frozen? ⟨g,i * 9 + 6,none⟩ = false∧w.frozen? ⟨g,i * 9 + 7,none⟩ = false∧w.frozen? ⟨g,i * 9 + 8,none⟩ = false:=
 ⟨h.free _ (by omega),h.free _ (by omega),h.free _ (by omega),h.free _ (by omega),h.free _ (by omega),h.free _ (by omega),h.free _ (by omega),h.free _ (by omega),h.free _ (by omega)⟩
set_option maxHeartbeats 6400000 in
set_option maxRecDepth 100000 in
theorem swapRange_calls (fv:Value) (l:List Triple) (L a b n cap:Nat) (hL:l.length = L) (hLs:L ≤ 140737488355328) (hab:a + n ≤ b) (hbn:b + n ≤ L) (g:Nat) (W w:World) (hS:SR W g l w) :
  Calls Tryz.prog 248 #[.slice (some ⟨g,0,none⟩) L cap,.int .i64 a,.int .i64 b,.int .i64 n,fv] w fun e w' =>
   e = .returned (.tuple #[])∧∃ l',l'.length = L∧(∀ q,l'[q]? = F l a b n q)∧SR W g l' w':=by
 have HS0:=Lib.hid hS
 have HLl:=Lib.hid hL
 clear hS hL
 go_enter Tryz.func248,Tryz.ntmps248
 go_wp2
 go_loopw [10] (fun vi wr=>∃ (k:Nat) (l':List Triple),k ≤ n∧vi = .int .i64 k∧Hid (l'.length = L∧(∀ q,l'[q]? = F l a b k q)∧SR W g l' wr)) (fun vi _=>n - (intOf vi).toNat)
 case atStart=>exact ⟨0,l,by omega,rfl,Lib.hid ⟨HLl.out,fun q=>(F_zero l a b q).symm,HS0.out⟩⟩
 case round =>
  obtain ⟨k,l',hk,rfl,HR⟩:=hrel
  by_cases hlt:k < n
  ·
   have hd:decide (k < n) = true:=decide_eq_true hlt
   have ik:(k:Int) < (n:Int):=by omega
   obtain ⟨ia,hia⟩:∃ ia,ia = a + k:=⟨_,rfl⟩
   obtain ⟨ib,hib⟩:∃ ib,ib = b + k:=⟨_,rfl⟩
   have ja:(ia:Int) < (L:Int):=by omega
   have jb:(ib:Int) < (L:Int):=by omega
   have hwa:IntKind.i64.wrap ((a:Int) + (k:Int)) = (ia:Int):=by rw [IntKind.wrap_i64];omega
   have hwb:IntKind.i64.wrap ((b:Int) + (k:Int)) = (ib:Int):=by rw [IntKind.wrap_i64];omega
   have h9:ia * 9 + 9 ≤ ib * 9:=by omega
   have D1:∀ e d,d < 9 → (ib * 9 + e = ia * 9 + d) = False:=fun e d hd=>eq_false (by omega)
   have D2:∀ d,d < 9 → (ib * 9 = ia * 9 + d) = False:=fun d hd=>eq_false (by omega)
   have D3:∀ e,(ib * 9 + e = ia * 9) = False:=fun e=>eq_false (by omega)
   have D4:(ib * 9 = ia * 9) = False:=eq_false (by omega)
   have D5:∀ e d,d < 9 → (ia * 9 + d = ib * 9 + e) = False:=fun e d hd=>eq_false (by omega)
   have D6:∀ d,d < 9 → (ia * 9 + d = ib * 9) = False:=fun d hd=>eq_false (by omega)
   have D7:∀ e,(ia * 9 = ib * 9 + e) = False:=fun e=>eq_false (by omega)
   have D8:(ia * 9 = ib * 9) = False:=eq_false (by omega)
   clear h9
   have hla:ia < l'.length:=by rw [HR.out.1];omega
   have hlb:ib < l'.length:=by rw [HR.out.1];omega
   have HStep:=Lib.hid (F_step hab (by rw [HLl.out];exact hbn) hlt (HR.out.1.trans HLl.out.symm) HR.out.2.1)
   rw [← hia,← hib] at HStep
   have HLen:=Lib.hid ((swapL_length l' ia ib).trans HR.out.1)
   obtain ⟨fa0,fa1,fa2,fa3,fa4,fa5,fa6,fa7,fa8⟩:=HR.out.2.2.free9 ia hla
   obtain ⟨fb0,fb1,fb2,fb3,fb4,fb5,fb6,fb7,fb8⟩:=HR.out.2.2.free9 ib hlb
   have hca:=HR.out.2.2.cells ia hla
   have hcb:=HR.out.2.2.cells ib hlb
   have HSW:=Lib.hid (SR.drew (HR.out.2.2.swap ia ib hla hlb))
   obtain ⟨X,hX⟩:∃ X,X = l'[ia]:=⟨_,rfl⟩
   obtain ⟨Y,hY⟩:∃ Y,Y = l'[ib]:=⟨_,rfl⟩
   rw [← hX] at hca HSW
   rw [← hY] at hcb HSW
   clear hX hY hia hib hla hlb
   obtain ⟨⟨sk,sx,se⟩,⟨pk,px,pe⟩,⟨ok,ox,oe⟩⟩:=X
   obtain ⟨⟨sk',sx',se'⟩,⟨pk',px',pe'⟩,⟨ok',ox',oe'⟩⟩:=Y
   unfold put9 at HSW
   dsimp only at HSW
   obtain ⟨ca0,ca1,ca2,ca3,ca4,ca5,ca6,ca7,ca8⟩:=hca
   obtain ⟨cb0,cb1,cb2,cb3,cb4,cb5,cb6,cb7,cb8⟩:=hcb
   dsimp only at ca0 ca1 ca2 ca3 ca4 ca5 ca6 ca7 ca8 cb0 cb1 cb2 cb3 cb4 cb5 cb6 cb7 cb8
   go_upto_region 3 with fail
   go_big_region
   all_goals go_wp2
   go_roundw
   case rel=>exact ⟨k + 1,_,by omega,by go_num,Lib.hid ⟨HLen.out,HStep.out,HSW.out⟩⟩
   case measure=>simp [intOf];omega
  ·
   have hd:decide (k < n) = false:=decide_eq_false hlt
   obtain rfl:k = n:=by omega
   go_wp2
   go_end0
   exact ⟨rfl,_,HR.out.1,HR.out.2.1,HR.out.2.2⟩
end Go.Proofs.YtnplommdgfgboaaGreatDoor.SortW
namespace Go.Proofs.YtnplommdgfgboaaGreatDoor.SortW
open Go.RowKit Go.Lib B Rd Utf TermPure LinesPure Tx Env Tri SortP Print Cmp Long
theorem swapParts_calls (fv:Value) (P X M Y Q:List Triple) (hXY:X.length = Y.length) (L:Nat) (hL:(P ++ (X ++ (M ++ (Y ++ Q)))).length = L) (hLs:L ≤ 140737488355328) (a b n cap:Nat) (ha:a = P.length) (hn:n = X.length) (hb:b = a + n + M.length) (g:Nat) (W w:World)
  (hS:SR W g (P ++ (X ++ (M ++ (Y ++ Q)))) w) :
  Calls Tryz.prog 248 #[.slice (some ⟨g,0,none⟩) L cap,.int .i64 a,.int .i64 b,.int .i64 n,fv] w fun e w'=>e = .returned (.tuple #[])∧SR W g (P ++ (Y ++ (M ++ (X ++ Q)))) w':=by
 have hlen:=hL
 simp only [List.length_append] at hlen
 refine (swapRange_calls fv _ L a b n cap hL hLs (by omega) (by omega) g W w hS).mono ?_
 rintro e w' ⟨h1,l',h2,h3,h4⟩
 refine ⟨h1,?_⟩
 rw [F_parts P X M Y Q l' hXY (fun q=>by rw [h3,hb,hn,ha])] at h4
 exact h4
set_option maxHeartbeats 6400000 in
set_option maxRecDepth 100000 in
theorem rotate_calls (fv:Value) (P X Y Q:List Triple) (hX:0 < X.length) (hY:0 < Y.length) (L:Nat) (hL:(P ++ (X ++ (Y ++ Q))).length = L) (hLs:L ≤ 140737488355328) (a m b cap:Nat) (ha:a = P.length) (hm:m = a + X.length) (hb:b = m + Y.length) (g:Nat) (W w:World)
  (hS:SR W g (P ++ (X ++ (Y ++ Q))) w) :
  Calls Tryz.prog 228 #[.slice (some ⟨g,0,none⟩) L cap,.int .i64 a,.int .i64 m,.int .i64 b,fv] w fun e w'=>e = .returned (.tuple #[])∧SR W g (P ++ (Y ++ (X ++ Q))) w':=by
 have hlen:=hL
 simp only [List.length_append] at hlen
 have HS0:=Lib.hid hS
 have HL:=Lib.hid hL
 obtain ⟨nx,hnx⟩:∃ nx,nx = X.length:=⟨_,rfl⟩
 obtain ⟨ny,hny⟩:∃ ny,ny = Y.length:=⟨_,rfl⟩
 have HN:=Lib.hid (show X.length = nx∧Y.length = ny∧P.length + nx = m from ⟨hnx.symm,hny.symm,by omega⟩)
 have w1:IntKind.i64.wrap ((m:Int) - (a:Int)) = (nx:Int):=by rw [IntKind.wrap_i64];omega
 have w2:IntKind.i64.wrap ((b:Int) - (m:Int)) = (ny:Int):=by rw [IntKind.wrap_i64];omega
 have b1:0 < nx:=by omega
 have b2:0 < ny:=by omega
 have b3:nx ≤ m:=by omega
 have b4:m + ny ≤ L:=by omega
 obtain ⟨T,hT⟩:∃ T,T = P ++ (Y ++ (X ++ Q)):=⟨_,rfl⟩
 rw [← hT]
 have HT:=Lib.hid hT
 clear hS hL hlen hX hY ha hm hb hnx hny hT
 go_enter Tryz.func228,Tryz.ntmps228
 go_wp2
 go_loopw [10,11] (fun vi vj wr=>∃ (i j:Nat) (P' X' Y' Q':List Triple),vi = .int .i64 i∧vj = .int .i64 j∧0 < i∧0 < j∧i ≤ m∧m + j ≤ L ∧
  Hid (X'.length = i∧Y'.length = j∧P'.length + i = m)∧Hid ((P' ++ (X' ++ (Y' ++ Q'))).length = L)∧Hid (T = P' ++ (Y' ++ (X' ++ Q')))∧Hid (SR W g (P' ++ (X' ++ (Y' ++ Q'))) wr)) (fun vi vj _=>(intOf vi).toNat + (intOf vj).toNat)
 case atStart=>exact ⟨nx,ny,P,X,Y,Q,rfl,rfl,b1,b2,b3,b4,HN,HL,HT,HS0⟩
 case round =>
  obtain ⟨i,j,P',X',Y',Q',rfl,rfl,hi,hj,him,hmj,HN',HL',HT',HS'⟩:=hrel
  clear w1 w2 b1 b2 b3 b4 HN HL HT HS0
  obtain ⟨mi,hmi⟩:∃ mi,mi = m - i:=⟨_,rfl⟩
  have w1:IntKind.i64.wrap ((m:Int) - (i:Int)) = (mi:Int):=by rw [IntKind.wrap_i64];omega
  by_cases hij:i = j
  ·
   subst hij
   have hne:((i:Int) != (i:Int)) = false:=by simp
   have HC:=Lib.hid (swapParts_calls fv P' X' [] Y' Q' (by rw [HN'.out.1,HN'.out.2.1]) L HL'.out hLs mi m i cap (by have:=HN'.out.2.2;omega) HN'.out.1.symm (by simp;omega) g W wr HS'.out)
   clear hmi
   go_wp2_with fail
   refine HC.out.mono ?_
   rintro e w2 ⟨rfl,hS2⟩
   have HS2:=Lib.hid hS2
   clear hS2
   go_wp2
   go_end0
   exact ⟨rfl,by rw [HT'.out];exact HS2.out⟩
  ·
   have hne:((i:Int) != (j:Int)) = true:=by rw [bne_iff_ne];omega
   by_cases hgt:j < i
   ·
    have hd:decide (j < i) = true:=decide_eq_true hgt
    have w3:IntKind.i64.wrap ((i:Int) - (j:Int)) = ((i - j:Nat):Int):=by rw [IntKind.wrap_i64];omega
    have hsplit:X' = X'.take j ++ X'.drop j:=(List.take_append_drop j X').symm
    have hl1:(X'.take j).length = j:=by rw [List.length_take,HN'.out.1];omega
    have hl2:(X'.drop j).length = i - j:=by rw [List.length_drop,HN'.out.1]
    have HP:=Lib.hid (show X'.length = i∧Y'.length = j∧P'.length + i = m from HN'.out)
    have HLx:=Lib.hid HL'.out
    have HTx:=Lib.hid HT'.out
    have HSx:=Lib.hid HS'.out
    generalize hX1:X'.take j = X1 at *
    generalize hX2:X'.drop j = X2 at *
    rw [hsplit] at HLx HTx HSx
    have HC:=Lib.hid (swapParts_calls fv P' X1 X2 Y' Q' (by rw [hl1,HP.out.2.1]) L (by have:=HLx.out;rw [List.append_assoc] at this;exact this) hLs mi m j cap (by have:=HP.out.2.2;omega) hl1.symm (by rw [hl2];omega) g W wr (by have:=HSx.out;rw [List.append_assoc] at this;exact this))
    have HN2:Hid (X2.length = i - j∧X1.length = j∧(P' ++ Y').length + (i - j) = m):=Lib.hid ⟨hl2,hl1,by rw [List.length_append,HP.out.2.1];have:=HP.out.2.2;omega⟩
    have HL2:Hid (((P' ++ Y') ++ (X2 ++ (X1 ++ Q'))).length = L):=Lib.hid (by have:=HLx.out;simp only [List.length_append] at this ⊢;omega)
    have HT2:Hid (T = (P' ++ Y') ++ (X1 ++ (X2 ++ Q'))):=Lib.hid (by rw [HTx.out];simp only [List.append_assoc])
    clear hmi hl1 hl2 hX1 hX2 hsplit
    go_wp2_with fail
    refine HC.out.mono ?_
    rintro e w2 ⟨rfl,hS2⟩
    have HS2:Hid (SR W g ((P' ++ Y') ++ (X2 ++ (X1 ++ Q'))) w2):=Lib.hid (by rw [List.append_assoc];exact hS2)
    clear hS2
    go_wp2
    go_roundw
    case rel=>exact ⟨i - j,j,P' ++ Y',X2,X1,Q',by go_num,rfl,by omega,hj,by omega,hmj,HN2,HL2,HT2,HS2⟩
    case measure=>simp [intOf];omega
   ·
    have hd:decide (j < i) = false:=decide_eq_false hgt
    have w3:IntKind.i64.wrap ((j:Int) - (i:Int)) = ((j - i:Nat):Int):=by rw [IntKind.wrap_i64];omega
    obtain ⟨mj,hmj2⟩:∃ mj,mj = m + j:=⟨_,rfl⟩
    have w4:IntKind.i64.wrap ((m:Int) + (j:Int)) = (mj:Int):=by rw [IntKind.wrap_i64];omega
    obtain ⟨mk,hmk⟩:∃ mk,mk = mj - i:=⟨_,rfl⟩
    have w5:IntKind.i64.wrap ((mj:Int) - (i:Int)) = (mk:Int):=by rw [IntKind.wrap_i64];omega
    have hsplit:Y' = Y'.take (j - i) ++ Y'.drop (j - i):=(List.take_append_drop (j - i) Y').symm
    have hl1:(Y'.take (j - i)).length = j - i:=by rw [List.length_take,HN'.out.2.1];omega
    have hl2:(Y'.drop (j - i)).length = i:=by rw [List.length_drop,HN'.out.2.1];omega
    have HP:=Lib.hid (show X'.length = i∧Y'.length = j∧P'.length + i = m from HN'.out)
    have HLx:=Lib.hid HL'.out
    have HTx:=Lib.hid HT'.out
    have HSx:=Lib.hid HS'.out
    generalize hY1:Y'.take (j - i) = Y1 at *
    generalize hY2:Y'.drop (j - i) = Y2 at *
    rw [hsplit] at HLx HTx HSx
    have HC:=Lib.hid (swapParts_calls fv P' X' Y1 Y2 Q' (by rw [hl2,HP.out.1]) L (by have:=HLx.out;rw [List.append_assoc] at this;exact this) hLs mi mk i cap (by have:=HP.out.2.2;omega) HP.out.1.symm (by rw [hl1];omega) g W wr (by have:=HSx.out;rw [List.append_assoc] at this;exact this))
    have HN2:Hid (Y2.length = i∧Y1.length = j - i∧P'.length + i = m):=Lib.hid ⟨hl2,hl1,HP.out.2.2⟩
    have HL2:Hid ((P' ++ (Y2 ++ (Y1 ++ (X' ++ Q')))).length = L):=Lib.hid (by have:=HLx.out;simp only [List.length_append] at this ⊢;omega)
    have HT2:Hid (T = P' ++ (Y1 ++ (Y2 ++ (X' ++ Q')))):=Lib.hid (by rw [HTx.out];simp only [List.append_assoc])
    clear hmi hl1 hl2 hY1 hY2 hsplit hmk hmj2
    go_wp2_with fail
    refine HC.out.mono ?_
    rintro e w2 ⟨rfl,hS2⟩
    have HS2:=Lib.hid hS2
    clear hS2
    go_wp2
    go_roundw
    case rel=>exact ⟨i,j - i,P',Y2,Y1,X' ++ Q',rfl,by go_num,hi,by omega,him,by omega,HN2,HL2,HT2,HS2⟩
    case measure=>simp [intOf];omega
end Go.Proofs.YtnplommdgfgboaaGreatDoor.SortW
namespace Go.Proofs.YtnplommdgfgboaaGreatDoor.SortW
open Go.RowKit Go.Lib B Rd Utf TermPure LinesPure Tx Env Tri SortP Print Cmp Long
abbrev Sorted' (l:List Triple):Prop:=l.Pairwise fun a b=>¬ ltT b a
theorem _root_.Go.Proofs.YtnplommdgfgboaaGreatDoor.Long.C9.bel {w:World} {g o:Nat} {t:Triple} (h:Long.C9 w g o t) (p:QT.Bel w):Long.C9 p.w g o t:=
 ⟨p.cell h.c0,p.cell h.c1,p.cell h.c2,p.cell h.c3,p.cell h.c4,p.cell h.c5,p.cell h.c6,p.cell h.c7,p.cell h.c8⟩
theorem swap_adj (A B:List Triple) (x y:Triple):swapL (A ++ (y :: x :: B)) (A.length + 1) A.length = A ++ (x :: y :: B):=by
 apply List.ext_getElem?
 intro k
 rw [swapL_get _ _ _ _ (by simp) (by simp)]
 by_cases e1:k = A.length
 ·
  subst e1
  rw [if_pos rfl,List.getElem?_append_right (by omega),List.getElem?_append_right (by omega)]
  simp
 ·
  rw [if_neg e1]
  by_cases e2:k = A.length + 1
  ·
   subst e2
   rw [if_pos rfl,List.getElem?_append_right (by omega),List.getElem?_append_right (by omega)]
   simp
  ·
   rw [if_neg e2]
   by_cases e3:k < A.length
   ·
    rw [List.getElem?_append_left e3,List.getElem?_append_left e3]
   ·
    rw [List.getElem?_append_right (by omega),List.getElem?_append_right (by omega)]
    obtain ⟨d,hd⟩:∃ d,k - A.length = d + 2:=⟨k - A.length - 2,by omega⟩
    rw [hd]
    simp
theorem ins_done {S1 S2:List Triple} {x:Triple} (h:Sorted' (S1 ++ S2)) (h2:∀ y ∈ S2,ltT x y) (h1:S1 = [] ∨ ∃ S0 y,S1 = S0 ++ [y]∧¬ ltT x y):Sorted' (S1 ++ x :: S2):=by
 obtain ⟨p1,p2,p3⟩:=List.pairwise_append.1 h
 refine List.pairwise_append.2 ⟨p1,List.pairwise_cons.2 ⟨fun y hy=>ltT_asymm (h2 y hy),p2⟩,fun u hu v hv=>?_⟩
 rcases List.mem_cons.1 hv with rfl | hv
 ·
  rcases h1 with rfl | ⟨S0,y,rfl,hy⟩
  ·
   cases hu
  ·
   rcases List.mem_append.1 hu with hu' | hu'
   ·
    have:=(List.pairwise_append.1 p1).2.2 u hu' y (by simp)
    exact SortP.le_trans this hy
   ·
    simp at hu'
    subst hu'
    exact hy
 ·
  exact p3 u hu v hv
theorem sorted_take1 (A:List Triple):Sorted' (A.take 1):=by
 cases A with
 | nil=>simp
 | cons a A=>simp
def cmpV:Value:=.func (.func 119) #[] #[]
theorem get_at (P S:List Triple) (x:Triple) (Q:List Triple) (j:Nat) (hj:j = P.length + S.length):∃ h:j < (P ++ (S ++ (x :: Q))).length,(P ++ (S ++ (x :: Q)))[j] = x:=by
 subst hj
 refine ⟨by simp,?_⟩
 apply get_of
 rw [← List.append_assoc,List.getElem?_append_right (by simp)]
 simp
set_option maxHeartbeats 12800000 in
set_option maxRecDepth 100000 in
theorem insertion_calls (P A Q:List Triple) (L:Nat) (hL:(P ++ (A ++ Q)).length = L) (hLs:L ≤ 140737488355328) (a b cap:Nat) (ha:a = P.length) (hb:b = a + A.length) (hsm:∀ t ∈ A,SmallT t) (g:Nat) (W w:World)
  (hS:SR W g (P ++ (A ++ Q)) w) :
  Calls Tryz.prog 194 #[.slice (some ⟨g,0,none⟩) L cap,.int .i64 a,.int .i64 b,cmpV] w fun e w'=>e = .returned (.tuple #[])∧∃ R,R.Perm A∧Sorted' R∧SR W g (P ++ (R ++ Q)) w':=by
 have hlen:=hL
 simp only [List.length_append] at hlen
 have hbL:b ≤ L:=by omega
 have HA:=Lib.hid (show a = P.length∧b = a + A.length∧P.length + (A.length + Q.length) = L from ⟨ha,hb,hlen⟩)
 have HSm:=Lib.hid hsm
 have h00:Hid ((A.take 1).Perm (A.take (a + 1 - a))∧Sorted' (A.take 1)∧SR W g (P ++ (A.take 1 ++ (A.drop (a + 1 - a) ++ Q))) w):=Lib.hid (by
  rw [show a + 1 - a = 1 by omega]
  refine ⟨List.Perm.refl _,sorted_take1 A,?_⟩
  rw [← List.append_assoc (A.take 1),List.take_append_drop]
  exact hS)
 have hab:a ≤ b:=by omega
 clear hS hL hlen ha hb hsm
 unfold cmpV
 go_enter Tryz.func194,Tryz.ntmps194
 go_wp2
 go_loopw [8] (fun vi wr=>∃ (i:Nat) (S:List Triple),vi = .int .i64 i∧a < i∧i ≤ b + 1∧Hid (S.Perm (A.take (i - a))∧Sorted' S∧SR W g (P ++ (S ++ (A.drop (i - a) ++ Q))) wr)) (fun vi _=>b + 1 - (intOf vi).toNat)
 case atStart=>exact ⟨a + 1,A.take 1,by go_num,by omega,by omega,h00⟩
 case round =>
  obtain ⟨i,S,rfl,hai,hib,HR⟩:=hrel
  clear h00
  by_cases hlt:i < b
  ·
   have hd:decide (i < b) = true:=decide_eq_true hlt
   have ib:(i:Int) < (b:Int):=by omega
   have hiA:i - a < A.length:=by have:=HA.out.2.1;omega
   obtain ⟨x,hx⟩:∃ x,x = A[i - a]:=⟨_,rfl⟩
   have HX:Hid (SmallT x∧A.drop (i - a) = x :: A.drop (i - a + 1)∧A.take (i - a + 1) = A.take (i - a) ++ [x]∧S.length = i - a∧(∀ t ∈ S,SmallT t)):=Lib.hid (by
    refine ⟨by rw [hx];exact HSm.out _ (List.getElem_mem hiA),by rw [hx];exact List.drop_eq_getElem_cons hiA,by rw [hx,List.take_succ_eq_append_getElem hiA],?_,fun t ht=>HSm.out t (List.mem_of_mem_take (HR.out.1.mem_iff.1 ht))⟩
    rw [HR.out.1.length_eq,List.length_take]
    omega)
   have HI0:Hid (S ++ [] = S∧(∀ y ∈ ([]:List Triple),ltT x y)∧SR W g (P ++ (S ++ (x :: ([] ++ (A.drop (i - a + 1) ++ Q))))) wr):=Lib.hid (by
    refine ⟨List.append_nil _,fun y hy=>(by cases hy),?_⟩
    have:=HR.out.2.2
    rw [HX.out.2.1] at this
    exact this)
   clear hx hiA
   go_wp2
   go_loopw [9] (fun vj wx=>∃ (j:Nat) (S1 S2:List Triple),vj = .int .i64 j∧j ≤ i∧a ≤ j∧Hid (j = a + S1.length∧S1 ++ S2 = S∧(∀ y ∈ S2,ltT x y)∧SR W g (P ++ (S1 ++ (x :: (S2 ++ (A.drop (i - a + 1) ++ Q))))) wx)) (fun vj _=>(intOf vj).toNat)
   case atStart=>exact ⟨i,S,[],rfl,by omega,by omega,Lib.hid ⟨by rw [HX.out.2.2.2.1];omega,HI0.out⟩⟩
   case round =>
    obtain ⟨j,S1,S2,rfl,hji,haj,HJ⟩:=hrel
    clear HI0
    have HDone:Hid ((S1 = [] ∨ ∃ S0 y,S1 = S0 ++ [y]∧¬ ltT x y) → ∃ S',S'.Perm (A.take (i + 1 - a))∧Sorted' S'∧S' = S1 ++ x :: S2):=Lib.hid (fun h=>by
     refine ⟨_,?_,ins_done (by rw [HJ.out.2.1];exact HR.out.2.1) HJ.out.2.2.1 h,rfl⟩
     rw [show i + 1 - a = i - a + 1 by omega,HX.out.2.2.1]
     refine List.Perm.trans List.perm_middle ?_
     rw [HJ.out.2.1]
     exact (List.Perm.cons x HR.out.1).trans (List.perm_append_comm (l₁:=[x])))
    have HRow:Hid (∀ S',S' = S1 ++ x :: S2 → P ++ (S1 ++ (x :: (S2 ++ (A.drop (i - a + 1) ++ Q)))) = P ++ (S' ++ (A.drop (i + 1 - a) ++ Q))):=Lib.hid (fun S' h=>by
     rw [h,show i + 1 - a = i - a + 1 by omega]
     simp)
    by_cases hS1:S1 = []
    ·
     have hja:j = a:=by have:=HJ.out.1;rw [hS1] at this;simpa using this
     have hd2:decide (a < j) = false:=decide_eq_false (by omega)
     obtain ⟨S',h1,h2,h3⟩:=HDone.out (.inl hS1)
     have HE:Hid (S'.Perm (A.take (i + 1 - a))∧Sorted' S'∧∀ nq,SR W g (P ++ (S' ++ (A.drop (i + 1 - a) ++ Q))) (wr.drewN nq)):=Lib.hid ⟨h1,h2,fun nq=>by rw [← HRow.out S' h3];exact HJ.out.2.2.2.drewN nq⟩
     clear h1 h2 h3 hS1 hja HDone HRow
     go_upto_region 4 with fail
     go_quiet (fail)
     go_wp2
     refine ⟨⟨i + 1,S',by go_num,by omega,by omega,Lib.hid ⟨HE.out.1,HE.out.2.1,HE.out.2.2 _⟩⟩,?_⟩
     simp [intOf];omega
    ·
     obtain ⟨S0,y,hSy⟩:∃ S0 y,S1 = S0 ++ [y]:=⟨S1.dropLast,S1.getLast hS1,(List.dropLast_concat_getLast hS1).symm⟩
     subst hSy
     obtain ⟨jp,hjp⟩:∃ jp,jp = a + S0.length:=⟨_,rfl⟩
     have hj1:j = jp + 1:=by have:=HJ.out.1;simp at this;omega
     have hd2:decide (a < j) = true:=decide_eq_true (by omega)
     have hwj:IntKind.i64.wrap ((j:Int) - 1) = (jp:Int):=by rw [IntKind.wrap_i64];omega
     have jL:(j:Int) < (L:Int):=by omega
     have jpL:(jp:Int) < (L:Int):=by omega
     have HEq:Hid (P ++ ((S0 ++ [y]) ++ (x :: (S2 ++ (A.drop (i - a + 1) ++ Q)))) = P ++ (S0 ++ (y :: x :: (S2 ++ (A.drop (i - a + 1) ++ Q))))):=Lib.hid (by simp)
     have HS9:Hid (SR W g (P ++ (S0 ++ (y :: x :: (S2 ++ (A.drop (i - a + 1) ++ Q))))) wr):=Lib.hid (by rw [← HEq.out];exact HJ.out.2.2.2)
     obtain ⟨hjl,hjx⟩:=get_at P (S0 ++ [y]) x (S2 ++ (A.drop (i - a + 1) ++ Q)) j (by rw [HJ.out.1,HA.out.1])
     obtain ⟨hpl,hpx⟩:=get_at P S0 y (x :: (S2 ++ (A.drop (i - a + 1) ++ Q))) jp (by rw [hjp,HA.out.1])
     have hcj:=HJ.out.2.2.2.cells j hjl
     rw [hjx] at hcj
     have hcp:=HS9.out.cells jp hpl
     rw [hpx] at hcp
     have hjl2:j < (P ++ (S0 ++ (y :: x :: (S2 ++ (A.drop (i - a + 1) ++ Q))))).length:=by rw [← HEq.out];exact hjl
     have hjx2:(P ++ (S0 ++ (y :: x :: (S2 ++ (A.drop (i - a + 1) ++ Q)))))[j] = x:=by
      have key:∀ (l':List Triple) (h':P ++ ((S0 ++ [y]) ++ (x :: (S2 ++ (A.drop (i - a + 1) ++ Q)))) = l') (hb:j < l'.length),l'[j] = x:=by
       rintro l' rfl hb
       exact hjx
      exact key _ HEq.out hjl2
     have HSwF:Hid (∀ w2,SR W g (P ++ (S0 ++ (y :: x :: (S2 ++ (A.drop (i - a + 1) ++ Q))))) w2 → SR W g (P ++ (S0 ++ (x :: ((y :: S2) ++ (A.drop (i - a + 1) ++ Q))))) (put9 (put9 w2 g (j * 9) y) g (jp * 9) x).drew):=Lib.hid (fun w2 hS2=>by
      have hSw:=hS2.swap j jp hjl2 hpl
      rw [hjx2,hpx,show j = (P ++ S0).length + 1 by rw [hj1,hjp,HA.out.1,List.length_append],show jp = (P ++ S0).length by rw [hjp,HA.out.1,List.length_append]] at hSw
      rw [← List.append_assoc P S0,swap_adj,List.append_assoc,show (P ++ S0).length + 1 = j by rw [hj1,hjp,HA.out.1,List.length_append],show (P ++ S0).length = jp by rw [hjp,HA.out.1,List.length_append]] at hSw
      exact hSw.drew)
     have HFree:Hid (∀ w2,SR W g (P ++ (S0 ++ (y :: x :: (S2 ++ (A.drop (i - a + 1) ++ Q))))) w2 → (∀ d,d < 9 → w2.frozen? ⟨g,j * 9 + d,none⟩ = false∧w2.frozen? ⟨g,jp * 9 + d,none⟩ = false)):=Lib.hid (fun w2 hS2 d hd=>⟨hS2.free _ (by omega),hS2.free _ (by omega)⟩)
     have HC:=Lib.hid (fun w=>cmp_calls x y HX.out.1 (HX.out.2.2.2.2 y (by rw [← HJ.out.2.1];simp)) w)
     have hgl:g < wr.heap.size:=hcj.lt
     have HBk:Hid (∀ w2,Below wr.heap.size wr w2 → SR W g (P ++ ((S0 ++ [y]) ++ (x :: (S2 ++ (A.drop (i - a + 1) ++ Q))))) w2):=Lib.hid (fun w2 hb=>HJ.out.2.2.2.below hgl hb)
     have HLt:Hid (cmpT x y < 0 ↔ ltT x y):=Lib.hid Iff.rfl
     obtain ⟨v,hv⟩:∃ v,v = cmpT x y:=⟨_,rfl⟩
     rw [← hv] at HC HLt
     have HNext:Hid (ltT x y → jp = a + S0.length∧S0 ++ (y :: S2) = S∧(∀ z ∈ (y :: S2),ltT x z)):=Lib.hid (fun hxy=>⟨hjp,by rw [← HJ.out.2.1];simp,fun z hz=>by
      rcases List.mem_cons.1 hz with rfl | hz
      ·
       exact hxy
      ·
       exact HJ.out.2.2.1 z hz⟩)
     have hjp9:jp * 9 + 9 ≤ j * 9:=by omega
     have hapj:a ≤ jp:=by omega
     have hjpj:jp < j:=by omega
     have HIdx:Hid (SR W g (P ++ (S0 ++ (y :: x :: (S2 ++ (A.drop (i - a + 1) ++ Q))))) wr):=HS9
     clear hv hjl hpl hjx hpx hjl2 hjx2 hj1 hjp hS1 HEq
     by_cases hvn:v < 0
     ·
      -- less: they change places
      have hvd:decide (v < 0) = true:=decide_eq_true hvn
      have hxy:Hid (ltT x y):=Lib.hid (HLt.out.1 hvn)
      obtain ⟨⟨sk,sx,se⟩,⟨pk,px,pe⟩,⟨ok,ox,oe⟩⟩:=x
      obtain ⟨⟨sk',sx',se'⟩,⟨pk',px',pe'⟩,⟨ok',ox',oe'⟩⟩:=y
      have x0:=fun p=>(hcj.bel p).c0
      have x1:=fun p=>(hcj.bel p).c1
      have x2:=fun p=>(hcj.bel p).c2
      have x3:=fun p=>(hcj.bel p).c3
      have x4:=fun p=>(hcj.bel p).c4
      have x5:=fun p=>(hcj.bel p).c5
      have x6:=fun p=>(hcj.bel p).c6
      have x7:=fun p=>(hcj.bel p).c7
      have x8:=fun p=>(hcj.bel p).c8
      have y0:=fun p=>(hcp.bel p).c0
      have y1:=fun p=>(hcp.bel p).c1
      have y2:=fun p=>(hcp.bel p).c2
      have y3:=fun p=>(hcp.bel p).c3
      have y4:=fun p=>(hcp.bel p).c4
      have y5:=fun p=>(hcp.bel p).c5
      have y6:=fun p=>(hcp.bel p).c6
      have y7:=fun p=>(hcp.bel p).c7
      have y8:=fun p=>(hcp.bel p).c8
      dsimp only at x0 x1 x2 x3 x4 x5 x6 x7 x8 y0 y1 y2 y3 y4 y5 y6 y7 y8
      unfold Ref5.tripleV at HC
      dsimp only at HC
      go_upto_region 4 with fail
      refine QT.region_all (by kernel_rfl) (by kernel_rfl) ?_
      iterate 14 (go_big_quiet_step (fail))
      go_big_quiet_step (exact QT.Bel.call _ (HC.out _))
      iterate 2 (go_big_quiet_step (fail))
      refine wpQuiet_nil ?_
      intro w2 hw'
      obtain ⟨⟨_,hb⟩,rfl⟩:=hw'
      have HS2:=Lib.hid (HIdx.out.below hgl hb)
      have HSW:=Lib.hid (HSwF.out w2 HS2.out)
      unfold put9 at HSW
      dsimp only at HSW
      have f0:=(HFree.out w2 HS2.out 0 (by omega)).1
      have e0:=(HFree.out w2 HS2.out 0 (by omega)).2
      have f1:=(HFree.out w2 HS2.out 1 (by omega)).1
      have e1:=(HFree.out w2 HS2.out 1 (by omega)).2
      have f2:=(HFree.out w2 HS2.out 2 (by omega)).1
      have e2:=(HFree.out w2 HS2.out 2 (by omega)).2
      have f3:=(HFree.out w2 HS2.out 3 (by omega)).1
      have e3:=(HFree.out w2 HS2.out 3 (by omega)).2
      have f4:=(HFree.out w2 HS2.out 4 (by omega)).1
      have e4:=(HFree.out w2 HS2.out 4 (by omega)).2
      have f5:=(HFree.out w2 HS2.out 5 (by omega)).1
      have e5:=(HFree.out w2 HS2.out 5 (by omega)).2
      have f6:=(HFree.out w2 HS2.out 6 (by omega)).1
      have e6:=(HFree.out w2 HS2.out 6 (by omega)).2
      have f7:=(HFree.out w2 HS2.out 7 (by omega)).1
      have e7:=(HFree.out w2 HS2.out 7 (by omega)).2
      have f8:=(HFree.out w2 HS2.out 8 (by omega)).1
      have e8:=(HFree.out w2 HS2.out 8 (by omega)).2
      have a0:=(hcj.below hb).c0
      have b0:=(hcp.below hb).c0
      have a1:=(hcj.below hb).c1
      have b1:=(hcp.below hb).c1
      have a2:=(hcj.below hb).c2
      have b2:=(hcp.below hb).c2
      have a3:=(hcj.below hb).c3
      have b3:=(hcp.below hb).c3
      have a4:=(hcj.below hb).c4
      have b4:=(hcp.below hb).c4
      have a5:=(hcj.below hb).c5
      have b5:=(hcp.below hb).c5
      have a6:=(hcj.below hb).c6
      have b6:=(hcp.below hb).c6
      have a7:=(hcj.below hb).c7
      have b7:=(hcp.below hb).c7
      have a8:=(hcj.below hb).c8
      have b8:=(hcp.below hb).c8
      simp only [Nat.add_zero] at f0 e0
      clear hb x0 x1 x2 x3 x4 x5 x6 x7 x8 y0 y1 y2 y3 y4 y5 y6 y7 y8 hcj hcp
      dsimp only at a0 a1 a2 a3 a4 a5 a6 a7 a8 b0 b1 b2 b3 b4 b5 b6 b7 b8
      have D1:∀ e d,d < 9 → (j * 9 + e = jp * 9 + d) = False:=fun e d hd=>eq_false (by omega)
      have D2:∀ d,d < 9 → (j * 9 = jp * 9 + d) = False:=fun d hd=>eq_false (by omega)
      have D3:∀ e,(j * 9 + e = jp * 9) = False:=fun e=>eq_false (by omega)
      have D4:(j * 9 = jp * 9) = False:=eq_false (by omega)
      have D5:∀ e d,d < 9 → (jp * 9 + d = j * 9 + e) = False:=fun e d hd=>eq_false (by omega)
      have D6:∀ d,d < 9 → (jp * 9 + d = j * 9) = False:=fun d hd=>eq_false (by omega)
      have D7:∀ e,(jp * 9 = j * 9 + e) = False:=fun e=>eq_false (by omega)
      have D8:(jp * 9 = j * 9) = False:=eq_false (by omega)
      clear hjp9
      go_upto_region 6 with fail
      go_big_region
      all_goals go_wp2
      go_roundw
      case rel=>exact ⟨jp,S0,_ :: S2,by go_num,by omega,by omega,Lib.hid ⟨(HNext.out hxy.out).1,(HNext.out hxy.out).2.1,(HNext.out hxy.out).2.2,HSW.out⟩⟩
      case measure=>simp [intOf];omega
     ·
      have hvd:decide (v < 0) = false:=decide_eq_false hvn
      obtain ⟨S',h1,h2,h3⟩:=HDone.out (.inr ⟨S0,y,rfl,fun h=>hvn (HLt.out.2 h)⟩)
      have HE:Hid (S'.Perm (A.take (i + 1 - a))∧Sorted' S'∧∀ w2,Below wr.heap.size wr w2 → SR W g (P ++ (S' ++ (A.drop (i + 1 - a) ++ Q))) w2):=Lib.hid ⟨h1,h2,fun w2 hb=>by rw [← HRow.out S' h3];exact HBk.out w2 hb⟩
      clear h1 h2 h3 HDone HRow hvn
      obtain ⟨⟨sk,sx,se⟩,⟨pk,px,pe⟩,⟨ok,ox,oe⟩⟩:=x
      obtain ⟨⟨sk',sx',se'⟩,⟨pk',px',pe'⟩,⟨ok',ox',oe'⟩⟩:=y
      have x0:=fun p=>(hcj.bel p).c0
      have x1:=fun p=>(hcj.bel p).c1
      have x2:=fun p=>(hcj.bel p).c2
      have x3:=fun p=>(hcj.bel p).c3
      have x4:=fun p=>(hcj.bel p).c4
      have x5:=fun p=>(hcj.bel p).c5
      have x6:=fun p=>(hcj.bel p).c6
      have x7:=fun p=>(hcj.bel p).c7
      have x8:=fun p=>(hcj.bel p).c8
      have y0:=fun p=>(hcp.bel p).c0
      have y1:=fun p=>(hcp.bel p).c1
      have y2:=fun p=>(hcp.bel p).c2
      have y3:=fun p=>(hcp.bel p).c3
      have y4:=fun p=>(hcp.bel p).c4
      have y5:=fun p=>(hcp.bel p).c5
      have y6:=fun p=>(hcp.bel p).c6
      have y7:=fun p=>(hcp.bel p).c7
      have y8:=fun p=>(hcp.bel p).c8
      dsimp only at x0 x1 x2 x3 x4 x5 x6 x7 x8 y0 y1 y2 y3 y4 y5 y6 y7 y8
      unfold Ref5.tripleV at HC
      dsimp only at HC
      go_upto_region 4 with fail
      refine QT.region_all (by kernel_rfl) (by kernel_rfl) ?_
      iterate 14 (go_big_quiet_step (fail))
      go_big_quiet_step (exact QT.Bel.call _ (HC.out _))
      iterate 2 (go_big_quiet_step (fail))
      refine wpQuiet_nil ?_
      intro w2 hw'
      obtain ⟨⟨_,hb⟩,rfl⟩:=hw'
      have HE2:=Lib.hid (HE.out.2.2 w2 hb)
      clear hb x0 x1 x2 x3 x4 x5 x6 x7 x8 y0 y1 y2 y3 y4 y5 y6 y7 y8 hcj hcp
      go_wp2
      refine ⟨⟨i + 1,S',by go_num,by omega,by omega,Lib.hid ⟨HE.out.1,HE.out.2.1,HE2.out⟩⟩,?_⟩
      simp [intOf];omega
  ·
   have hd:decide (i < b) = false:=decide_eq_false hlt
   have HV:Hid (∃ R,R.Perm A∧Sorted' R∧SR W g (P ++ (R ++ Q)) wr):=Lib.hid (by
    have h1:A.length ≤ i - a:=by have:=HA.out.2.1;omega
    obtain ⟨p1,p2,p3⟩:=HR.out
    rw [List.take_of_length_le h1] at p1
    rw [List.drop_eq_nil_of_le h1,List.nil_append] at p3
    exact ⟨S,p1,p2,p3⟩)
   go_wp2
   go_end0
   exact ⟨rfl,HV.out⟩
end Go.Proofs.YtnplommdgfgboaaGreatDoor.SortW
namespace Go.Proofs.YtnplommdgfgboaaGreatDoor.SortW
open Go.RowKit Go.Lib B Rd Utf TermPure LinesPure SortP
theorem sorted_get {l:List Triple} (h:Sorted' l) {i j:Nat} {u v:Triple} (hij:i ≤ j) (hi:l[i]? = some u) (hj:l[j]? = some v):¬ ltT v u:=by
 obtain ⟨hi',rfl⟩:=List.getElem?_eq_some_iff.1 hi
 obtain ⟨hj',rfl⟩:=List.getElem?_eq_some_iff.1 hj
 by_cases e:i = j
 ·
  subst e
  exact ltT_irrefl _
 ·
  exact List.pairwise_iff_getElem.1 h i j hi' hj' (by omega)
theorem ins_gen {S1 S2:List Triple} {x:Triple} (h:Sorted' (S1 ++ S2)) (h1:∀ u ∈ S1,¬ ltT x u) (h2:∀ v ∈ S2,¬ ltT v x):Sorted' (S1 ++ x :: S2):=by
 obtain ⟨p1,p2,p3⟩:=List.pairwise_append.1 h
 refine List.pairwise_append.2 ⟨p1,List.pairwise_cons.2 ⟨h2,p2⟩,fun u hu v hv=>?_⟩
 rcases List.mem_cons.1 hv with rfl | hv
 ·
  exact h1 u hu
 ·
  exact p3 u hu v hv
theorem mem_take_get {l:List Triple} {i:Nat} {u:Triple} (h:u ∈ l.take i):∃ k,k < i∧l[k]? = some u:=by
 obtain ⟨k,hk⟩:=List.mem_iff_getElem?.1 h
 rw [List.getElem?_take] at hk
 split at hk
 ·
  rename_i hlt;exact ⟨k,hlt,hk⟩
 ·
  cases hk
theorem mem_drop_get {l:List Triple} {i:Nat} {u:Triple} (h:u ∈ l.drop i):∃ k,i ≤ k∧l[k]? = some u:=by
 obtain ⟨k,hk⟩:=List.mem_iff_getElem?.1 h
 rw [List.getElem?_drop] at hk
 exact ⟨i + k,by omega,hk⟩
theorem one_in {B:List Triple} {x:Triple} {i:Nat} (hB:Sorted' B) (h1:i = 0 ∨ ∃ y,B[i - 1]? = some y∧¬ ltT x y) (h2:B.length ≤ i ∨ ∃ y,B[i]? = some y∧¬ ltT y x):Sorted' (B.take i ++ x :: B.drop i):=by
 refine ins_gen (by rw [List.take_append_drop];exact hB) (fun u hu=>?_) (fun v hv=>?_)
 ·
  obtain ⟨k,hk,hu⟩:=mem_take_get hu
  rcases h1 with h1 | ⟨y,hy,hn⟩
  ·
   omega
  ·
   exact SortP.le_trans (sorted_get hB (by omega) hu hy) hn
 ·
  obtain ⟨k,hk,hv⟩:=mem_drop_get hv
  rcases h2 with h2 | ⟨y,hy,hn⟩
  ·
   have:=(List.getElem?_eq_some_iff.1 hv).1;omega
  ·
   exact SortP.le_trans hn (sorted_get hB hk hy hv)
theorem one_perm (B:List Triple) (x:Triple) (i:Nat):(B.take i ++ x :: B.drop i).Perm ([x] ++ B):=by
 refine List.perm_middle.trans ?_
 rw [List.take_append_drop]
 exact List.Perm.refl _
theorem halves {A B R1 R2:List Triple} {s e:Nat} (hA:Sorted' A) (hB:Sorted' B)
  (h1:s = 0 ∨ B.length ≤ e ∨ ∃ u v,A[s - 1]? = some u∧B[e]? = some v∧¬ ltT v u) (h2:A.length ≤ s ∨ e = 0 ∨ ∃ u v,B[e - 1]? = some u∧A[s]? = some v∧¬ ltT v u)
  (p1:R1.Perm (A.take s ++ B.take e)) (p2:R2.Perm (A.drop s ++ B.drop e)) (s1:Sorted' R1) (s2:Sorted' R2):(R1 ++ R2).Perm (A ++ B)∧Sorted' (R1 ++ R2):=by
 constructor
 ·
  refine (List.Perm.append p1 p2).trans ?_
  conv=>rhs;rw [← List.take_append_drop s A,← List.take_append_drop e B]
  simp only [List.append_assoc]
  refine List.Perm.append_left _ ?_
  rw [← List.append_assoc,← List.append_assoc]
  exact List.Perm.append_right _ List.perm_append_comm
 ·
  refine List.pairwise_append.2 ⟨s1,s2,fun x hx y hy=>?_⟩
  rcases List.mem_append.1 (p1.mem_iff.1 hx) with hx | hx
  ·
   obtain ⟨k,hk,hx⟩:=mem_take_get hx
   rcases List.mem_append.1 (p2.mem_iff.1 hy) with hy | hy
   ·
    obtain ⟨q,hq,hy⟩:=mem_drop_get hy
    exact sorted_get hA (by omega) hx hy
   ·
    obtain ⟨q,hq,hy⟩:=mem_drop_get hy
    rcases h1 with h1 | h1 | ⟨u,v,hu,hv,hn⟩
    ·
     omega
    ·
     have:=(List.getElem?_eq_some_iff.1 hy).1;omega
    ·
     exact SortP.le_trans (sorted_get hA (by omega) hx hu) (SortP.le_trans hn (sorted_get hB hq hv hy))
  ·
   obtain ⟨k,hk,hx⟩:=mem_take_get hx
   rcases List.mem_append.1 (p2.mem_iff.1 hy) with hy | hy
   ·
    obtain ⟨q,hq,hy⟩:=mem_drop_get hy
    rcases h2 with h2 | h2 | ⟨u,v,hu,hv,hn⟩
    ·
     have:=(List.getElem?_eq_some_iff.1 hy).1;omega
    ·
     omega
    ·
     exact SortP.le_trans (sorted_get hB (by omega) hx hu) (SortP.le_trans hn (sorted_get hA hq hv hy))
   ·
    obtain ⟨q,hq,hy⟩:=mem_drop_get hy
    exact sorted_get hB (by omega) hx hy
theorem swap_up (S T:List Triple) (x y:Triple):swapL (S ++ (x :: y :: T)) S.length (S.length + 1) = S ++ (y :: x :: T):=by
 apply List.ext_getElem?
 intro k
 rw [swapL_get _ _ _ _ (by simp) (by simp)]
 by_cases e1:k = S.length + 1
 ·
  subst e1
  rw [if_pos rfl,List.getElem?_append_right (by omega),List.getElem?_append_right (by omega)]
  simp
 ·
  rw [if_neg e1]
  by_cases e2:k = S.length
  ·
   subst e2
   rw [if_pos rfl,List.getElem?_append_right (by omega),List.getElem?_append_right (by omega)]
   simp
  ·
   rw [if_neg e2]
   by_cases e3:k < S.length
   ·
    rw [List.getElem?_append_left e3,List.getElem?_append_left e3]
   ·
    rw [List.getElem?_append_right (by omega),List.getElem?_append_right (by omega)]
    obtain ⟨d,hd⟩:∃ d,k - S.length = d + 2:=⟨k - S.length - 2,by omega⟩
    rw [hd]
    simp
theorem at_A {P A B Q:List Triple} {k:Nat} (h:k < A.length):(P ++ (A ++ (B ++ Q)))[P.length + k]? = A[k]?:=by
 rw [List.getElem?_append_right (by omega),Nat.add_sub_cancel_left,List.getElem?_append_left h]
theorem at_B {P A B Q:List Triple} {k:Nat} (h:k < B.length):(P ++ (A ++ (B ++ Q)))[P.length + A.length + k]? = B[k]?:=by
 rw [List.getElem?_append_right (by omega),List.getElem?_append_right (by omega),List.getElem?_append_left (by omega)]
 congr 1
 omega
end Go.Proofs.YtnplommdgfgboaaGreatDoor.SortW
namespace Go.Proofs.YtnplommdgfgboaaGreatDoor.SortW
open Go.RowKit Go.Lib B Rd Utf TermPure LinesPure Tx Env Tri SortP Print Cmp Long
theorem SR.at {W w:World} {g:Nat} {l:List Triple} (h:SR W g l w) {q:Nat} {t:Triple} (hq:l[q]? = some t):C9 w g (q * 9) t:=by
 obtain ⟨h1,rfl⟩:=List.getElem?_eq_some_iff.1 hq
 exact h.cells q h1
set_option maxHeartbeats 12800000 in
set_option maxRecDepth 100000 in
theorem sym_left (P B Q:List Triple) (x:Triple) (L:Nat) (hL:(P ++ ([x] ++ (B ++ Q))).length = L) (hLs:L ≤ 140737488355328) (a m b cap:Nat) (ha:a = P.length) (hm:m = a + 1) (hb:b = m + B.length) (hB:Sorted' B) (hsx:SmallT x) (hsm:∀ t ∈ B,SmallT t) (g:Nat) (W w:World)
  (hS:SR W g (P ++ ([x] ++ (B ++ Q))) w) :
  Calls Tryz.prog 195 #[.slice (some ⟨g,0,none⟩) L cap,.int .i64 a,.int .i64 m,.int .i64 b,cmpV] w fun e w'=>e = .returned (.tuple #[])∧∃ R,R.Perm ([x] ++ B)∧Sorted' R∧SR W g (P ++ (R ++ Q)) w':=by
 have hlen:=hL
 simp only [List.length_append,List.length_singleton] at hlen
 have hbL:b ≤ L:=by omega
 have hmb:m ≤ b:=by omega
 have ham:a < m:=by omega
 have HA:=Lib.hid (show a = P.length∧m = P.length + 1∧b = m + B.length from ⟨ha,by omega,hb⟩)
 have HBs:=Lib.hid hB
 have HSm:=Lib.hid hsm
 have HSx:=Lib.hid hsx
 have HS0:=Lib.hid hS
 have w0:IntKind.i64.wrap ((m:Int) - (a:Int)) = 1:=by rw [IntKind.wrap_i64];omega
 clear hS hL hlen ha hb hB hsx hsm hm
 unfold cmpV
 go_enter Tryz.func195,Tryz.ntmps195
 go_wp2
 go_loopw [10,11] (fun vi vj wr=>∃ i j:Nat,vi = .int .i64 i∧vj = .int .i64 j∧m ≤ i∧i ≤ j∧j ≤ b∧Hid ((i = m ∨ ∃ y,B[i - 1 - m]? = some y∧ltT y x)∧(j = b ∨ ∃ y,B[j - m]? = some y∧¬ ltT y x)∧SR W g (P ++ ([x] ++ (B ++ Q))) wr)) (fun vi vj _=>(intOf vj).toNat - (intOf vi).toNat)
 case atStart=>exact ⟨m,b,rfl,rfl,by omega,by omega,by omega,Lib.hid ⟨.inl rfl,.inl rfl,HS0.out⟩⟩
 case round =>
  obtain ⟨i,j,rfl,rfl,hmi,hij,hjb,HR⟩:=hrel
  clear HS0
  by_cases hlt:i < j
  ·
   have hd:decide (i < j) = true:=decide_eq_true hlt
   obtain ⟨h,hh⟩:∃ h,h = (i + j) / 2:=⟨_,rfl⟩
   have hq:((i:Int) + (j:Int)) / 2 = (h:Int):=by omega
   have hhb:(h:Int) < (L:Int):=by omega
   have hab:(a:Int) < (L:Int):=by omega
   have hmh:m ≤ h:=by omega
   have hih:i ≤ h:=by omega
   have hhj:h < j:=by omega
   clear hh
   have hBl:h - m < B.length:=by have:=HA.out.2.2;omega
   obtain ⟨y,hy⟩:∃ y,B[h - m]? = some y:=⟨_,List.getElem?_eq_getElem hBl⟩
   have hrow:(P ++ ([x] ++ (B ++ Q)))[h]? = some y:=by
    rw [← hy,← at_B (P:=P) (A:=[x]) (B:=B) (Q:=Q) hBl]
    congr 1
    have:=HA.out.2.1
    simp
    omega
   have hrow0:(P ++ ([x] ++ (B ++ Q)))[a]? = some x:=by
    have:=at_A (P:=P) (A:=[x]) (B:=B) (Q:=Q) (k:=0) (by simp)
    rw [HA.out.1]
    rw [Nat.add_zero] at this
    rw [this]
    try rfl
   have hch:=HR.out.2.2.at hrow
   have hca:=HR.out.2.2.at hrow0
   have hgl:=hch.lt
   have HBk:Hid (∀ w2,Below wr.heap.size wr w2 → SR W g (P ++ ([x] ++ (B ++ Q))) w2):=Lib.hid (fun w2 hb=>HR.out.2.2.below hgl hb)
   have HC:=Lib.hid (fun w=>cmp_calls y x (HSm.out y (List.mem_of_getElem? hy)) HSx.out w)
   have HLt:Hid (cmpT y x < 0 ↔ ltT y x):=Lib.hid Iff.rfl
   have HY:=Lib.hid hy
   have HI:=Lib.hid HR.out.1
   have HJ:=Lib.hid HR.out.2.1
   obtain ⟨v,hv⟩:∃ v,v = cmpT y x:=⟨_,rfl⟩
   rw [← hv] at HC HLt
   clear hv hy hrow hrow0 hBl HR
   by_cases hvn:v < 0
   ·
    have hvd:decide (v < 0) = true:=decide_eq_true hvn
    have HYL:Hid (ltT y x):=Lib.hid (HLt.out.1 hvn)
    have HI2:Hid (h + 1 = m ∨ ∃ y,B[h + 1 - 1 - m]? = some y∧ltT y x):=Lib.hid (.inr ⟨y,by rw [show h + 1 - 1 - m = h - m by omega];exact HY.out,HYL.out⟩)
    clear hvn HLt HY HYL HI
    obtain ⟨⟨sk',sx',se'⟩,⟨pk',px',pe'⟩,⟨ok',ox',oe'⟩⟩:=y
    obtain ⟨⟨sk,sx,se⟩,⟨pk,px,pe⟩,⟨ok,ox,oe⟩⟩:=x
    have y0:=fun p=>(hch.bel p).c0
    have y1:=fun p=>(hch.bel p).c1
    have y2:=fun p=>(hch.bel p).c2
    have y3:=fun p=>(hch.bel p).c3
    have y4:=fun p=>(hch.bel p).c4
    have y5:=fun p=>(hch.bel p).c5
    have y6:=fun p=>(hch.bel p).c6
    have y7:=fun p=>(hch.bel p).c7
    have y8:=fun p=>(hch.bel p).c8
    have x0:=fun p=>(hca.bel p).c0
    have x1:=fun p=>(hca.bel p).c1
    have x2:=fun p=>(hca.bel p).c2
    have x3:=fun p=>(hca.bel p).c3
    have x4:=fun p=>(hca.bel p).c4
    have x5:=fun p=>(hca.bel p).c5
    have x6:=fun p=>(hca.bel p).c6
    have x7:=fun p=>(hca.bel p).c7
    have x8:=fun p=>(hca.bel p).c8
    dsimp only at y0 y1 y2 y3 y4 y5 y6 y7 y8 x0 x1 x2 x3 x4 x5 x6 x7 x8
    unfold Ref5.tripleV at HC
    dsimp only at HC
    go_upto_region 5 with fail
    refine QT.region_all (by kernel_rfl) (by kernel_rfl) ?_
    iterate 9 (go_big_quiet_step (fail))
    go_big_quiet_step (exact QT.Bel.call _ (HC.out _))
    iterate 1 (go_big_quiet_step (fail))
    refine wpQuiet_nil ?_
    intro w2 hw'
    obtain ⟨⟨_,hb⟩,rfl⟩:=hw'
    have HS2:=Lib.hid (HBk.out w2 hb)
    clear hb y0 y1 y2 y3 y4 y5 y6 y7 y8 x0 x1 x2 x3 x4 x5 x6 x7 x8 hch hca
    go_wp2
    go_roundw
    case rel=>exact ⟨h + 1,j,by go_num,rfl,by omega,by omega,hjb,Lib.hid ⟨HI2.out,HJ.out,HS2.out⟩⟩
    case measure=>simp [intOf];omega
   ·
    have hvd:decide (v < 0) = false:=decide_eq_false hvn
    have HYL:Hid (¬ ltT y x):=Lib.hid (fun hl=>hvn (HLt.out.2 hl))
    have HJ2:Hid (h = b ∨ ∃ y,B[h - m]? = some y∧¬ ltT y x):=Lib.hid (.inr ⟨y,HY.out,HYL.out⟩)
    clear hvn HLt HY HYL HJ
    obtain ⟨⟨sk',sx',se'⟩,⟨pk',px',pe'⟩,⟨ok',ox',oe'⟩⟩:=y
    obtain ⟨⟨sk,sx,se⟩,⟨pk,px,pe⟩,⟨ok,ox,oe⟩⟩:=x
    have y0:=fun p=>(hch.bel p).c0
    have y1:=fun p=>(hch.bel p).c1
    have y2:=fun p=>(hch.bel p).c2
    have y3:=fun p=>(hch.bel p).c3
    have y4:=fun p=>(hch.bel p).c4
    have y5:=fun p=>(hch.bel p).c5
    have y6:=fun p=>(hch.bel p).c6
    have y7:=fun p=>(hch.bel p).c7
    have y8:=fun p=>(hch.bel p).c8
    have x0:=fun p=>(hca.bel p).c0
    have x1:=fun p=>(hca.bel p).c1
    have x2:=fun p=>(hca.bel p).c2
    have x3:=fun p=>(hca.bel p).c3
    have x4:=fun p=>(hca.bel p).c4
    have x5:=fun p=>(hca.bel p).c5
    have x6:=fun p=>(hca.bel p).c6
    have x7:=fun p=>(hca.bel p).c7
    have x8:=fun p=>(hca.bel p).c8
    dsimp only at y0 y1 y2 y3 y4 y5 y6 y7 y8 x0 x1 x2 x3 x4 x5 x6 x7 x8
    unfold Ref5.tripleV at HC
    dsimp only at HC
    go_upto_region 5 with fail
    refine QT.region_all (by kernel_rfl) (by kernel_rfl) ?_
    iterate 9 (go_big_quiet_step (fail))
    go_big_quiet_step (exact QT.Bel.call _ (HC.out _))
    iterate 1 (go_big_quiet_step (fail))
    refine wpQuiet_nil ?_
    intro w2 hw'
    obtain ⟨⟨_,hb⟩,rfl⟩:=hw'
    have HS2:=Lib.hid (HBk.out w2 hb)
    clear hb y0 y1 y2 y3 y4 y5 y6 y7 y8 x0 x1 x2 x3 x4 x5 x6 x7 x8 hch hca
    go_wp2
    go_roundw
    case rel=>exact ⟨i,h,rfl,by go_num,hmi,by omega,by omega,Lib.hid ⟨HI.out,HJ2.out,HS2.out⟩⟩
    case measure=>simp [intOf];omega
  ·
   have hd:decide (i < j) = false:=decide_eq_false hlt
   obtain rfl:i = j:=by omega
   obtain ⟨n,hn⟩:∃ n,n = i - m:=⟨_,rfl⟩
   obtain ⟨i1,hi1⟩:∃ i1,i1 + 1 = i:=⟨i - 1,by omega⟩
   have wi:IntKind.i64.wrap ((i:Int) - 1) = (i1:Int):=by rw [IntKind.wrap_i64];omega
   have HSorted:Hid (Sorted' (B.take n ++ x :: B.drop n)∧(B.take n ++ x :: B.drop n).Perm ([x] ++ B)∧n ≤ B.length):=Lib.hid (by
    obtain ⟨h1,h2,_⟩:=HR.out
    refine ⟨one_in HBs.out ?_ ?_,one_perm B x n,by have:=HA.out.2.2;omega⟩
    ·
     rcases h1 with h1 | ⟨y,hy,hl⟩
     ·
      left;omega
     ·
      right;exact ⟨y,by rw [← hy];congr 1;omega,ltT_asymm hl⟩
    ·
     rcases h2 with h2 | ⟨y,hy,hl⟩
     ·
      left;have:=HA.out.2.2;omega
     ·
      right;exact ⟨y,by rw [← hy];congr 1,hl⟩)
   have HR0:Hid (SR W g (P ++ (B.take 0 ++ (x :: (B.drop 0 ++ Q)))) wr):=Lib.hid HR.out.2.2
   have hni:n + m = i:=by omega
   clear HR hn
   go_wp2
   go_loopw [13] (fun vk wr=>∃ k c:Nat,vk = .int .i64 k∧k = a + c∧c ≤ n∧Hid (SR W g (P ++ (B.take c ++ (x :: (B.drop c ++ Q)))) wr)) (fun vk _=>n + a - (intOf vk).toNat)
   case atStart=>exact ⟨a,0,rfl,by omega,by omega,HR0⟩
   case round =>
    obtain ⟨k,c,rfl,hkc,hcn,HR⟩:=hrel
    have HKC:=Lib.hid hkc
    clear HR0
    by_cases hck:c < n
    ·
     have hd2:decide (k < i1) = true:=decide_eq_true (by omega)
     have hd3:(k:Int) < (i1:Int):=by omega
     obtain ⟨k1,hk1⟩:∃ k1,k1 = k + 1:=⟨_,rfl⟩
     have wk:IntKind.i64.wrap ((k:Int) + 1) = (k1:Int):=by rw [IntKind.wrap_i64];omega
     have hkL:(k:Int) < (L:Int):=by omega
     have hk1L:(k1:Int) < (L:Int):=by omega
     have hcB:c < B.length:=Nat.lt_of_lt_of_le hck HSorted.out.2.2
     obtain ⟨y,hy⟩:∃ y,y = B[c]:=⟨_,rfl⟩
     have hdrop:B.drop c = y :: B.drop (c + 1):=by rw [hy];exact List.drop_eq_getElem_cons hcB
     have htake:B.take (c + 1) = B.take c ++ [y]:=by rw [hy,List.take_succ_eq_append_getElem hcB]
     have hlenT:(P ++ B.take c).length = k:=by rw [List.length_append,List.length_take];have:=HA.out.1;omega
     have HS9:SR W g ((P ++ B.take c) ++ (x :: y :: (B.drop (c + 1) ++ Q))) wr:=by
      have:=HR.out
      rw [hdrop] at this
      rw [List.append_assoc]
      exact this
     have gx:((P ++ B.take c) ++ (x :: y :: (B.drop (c + 1) ++ Q)))[k]? = some x:=by rw [List.getElem?_append_right (by omega),hlenT];simp
     have gy:((P ++ B.take c) ++ (x :: y :: (B.drop (c + 1) ++ Q)))[k1]? = some y:=by rw [List.getElem?_append_right (by omega),hlenT,show k1 - k = 1 by omega];simp
     obtain ⟨lx,ex⟩:=List.getElem?_eq_some_iff.1 gx
     obtain ⟨ly,ey⟩:=List.getElem?_eq_some_iff.1 gy
     have HSwF:Hid (SR W g (P ++ (B.take (c + 1) ++ (x :: (B.drop (c + 1) ++ Q)))) (put9 (put9 wr g (k * 9) y) g (k1 * 9) x).drew):=Lib.hid (by
      have hSw:=HS9.swap k k1 lx ly
      rw [ex,ey,show k1 = (P ++ B.take c).length + 1 by omega,← hlenT,swap_up] at hSw
      rw [hlenT] at hSw
      have h2:=hSw.drew
      rw [htake]
      rw [← hk1] at h2
      simpa [List.append_assoc] using h2)
     have hcx:=HS9.at gx
     have hcy:=HS9.at gy
     have fx:=HS9.free9 k lx
     have fy:=HS9.free9 k1 ly
     have h9:k * 9 + 9 ≤ k1 * 9:=by omega
     have HK1:=Lib.hid hk1
     clear gx gy lx ly ex ey HS9 hlenT htake hdrop hy hcB
     obtain ⟨⟨sk',sx',se'⟩,⟨pk',px',pe'⟩,⟨ok',ox',oe'⟩⟩:=y
     obtain ⟨⟨sk,sx,se⟩,⟨pk,px,pe⟩,⟨ok,ox,oe⟩⟩:=x
     unfold put9 at HSwF
     dsimp only at HSwF
     obtain ⟨x0,x1,x2,x3,x4,x5,x6,x7,x8⟩:=hcx
     obtain ⟨y0,y1,y2,y3,y4,y5,y6,y7,y8⟩:=hcy
     obtain ⟨f0,f1,f2,f3,f4,f5,f6,f7,f8⟩:=fx
     obtain ⟨e0,e1,e2,e3,e4,e5,e6,e7,e8⟩:=fy
     dsimp only at x0 x1 x2 x3 x4 x5 x6 x7 x8 y0 y1 y2 y3 y4 y5 y6 y7 y8
     have D1:∀ e d,d < 9 → (k1 * 9 + e = k * 9 + d) = False:=fun e d hd=>eq_false (by omega)
     have D2:∀ d,d < 9 → (k1 * 9 = k * 9 + d) = False:=fun d hd=>eq_false (by omega)
     have D3:∀ e,(k1 * 9 + e = k * 9) = False:=fun e=>eq_false (by omega)
     have D4:(k1 * 9 = k * 9) = False:=eq_false (by omega)
     have D5:∀ e d,d < 9 → (k * 9 + d = k1 * 9 + e) = False:=fun e d hd=>eq_false (by omega)
     have D6:∀ d,d < 9 → (k * 9 + d = k1 * 9) = False:=fun d hd=>eq_false (by omega)
     have D7:∀ e,(k * 9 = k1 * 9 + e) = False:=fun e=>eq_false (by omega)
     have D8:(k * 9 = k1 * 9) = False:=eq_false (by omega)
     clear h9 hkc hk1
     go_upto_region 11 with fail
     go_big_region
     all_goals go_wp2
     go_roundw
     case rel=>exact ⟨k1,c + 1,by go_num,by have:=HKC.out;have:=HK1.out;omega,by omega,HSwF⟩
     case measure=>have:=HKC.out;have:=HK1.out;simp [intOf];omega
    ·
     have hd2:decide (k < i1) = false:=decide_eq_false (by have h1:=HA.out.1;have h2:=HA.out.2.1;omega)
     have hd3:¬ ((k:Int) < (i1:Int)):=by have h1:=HA.out.1;have h2:=HA.out.2.1;omega
     obtain rfl:c = n:=by omega
     clear hkc
     go_wp2
     ((try simp only [Exit.inBlock,Exit.then]);refine bodyPost_ret (results_none rfl _ _ _) rfl ?_)
     exact ⟨rfl,_,HSorted.out.2.1,HSorted.out.1,by rw [List.append_assoc];exact HR.out⟩
end Go.Proofs.YtnplommdgfgboaaGreatDoor.SortW
namespace Go.Proofs.YtnplommdgfgboaaGreatDoor.SortW
open Go.RowKit Go.Lib B Rd Utf TermPure LinesPure Tx Env Tri SortP Print Cmp Long
set_option maxHeartbeats 12800000 in
set_option maxRecDepth 100000 in
theorem sym_right (P A Q:List Triple) (y:Triple) (L:Nat) (hL:(P ++ (A ++ ([y] ++ Q))).length = L) (hLs:L ≤ 140737488355328) (a m b cap:Nat) (ha:a = P.length) (hm:m = a + A.length) (hb:b = m + 1) (h2:2 ≤ A.length) (hA:Sorted' A) (hsx:SmallT y) (hsm:∀ t ∈ A,SmallT t) (g:Nat) (W w:World)
  (hS:SR W g (P ++ (A ++ ([y] ++ Q))) w) :
  Calls Tryz.prog 195 #[.slice (some ⟨g,0,none⟩) L cap,.int .i64 a,.int .i64 m,.int .i64 b,cmpV] w fun e w'=>e = .returned (.tuple #[])∧∃ R,R.Perm (A ++ [y])∧Sorted' R∧SR W g (P ++ (R ++ Q)) w':=by
 have hlen:=hL
 simp only [List.length_append,List.length_singleton] at hlen
 have hmL:m < L:=by omega
 have ham:a ≤ m:=by omega
 have HA:=Lib.hid (show a = P.length∧m = P.length + A.length∧b = m + 1 from ⟨ha,by omega,hb⟩)
 have HAs:=Lib.hid hA
 have HSm:=Lib.hid hsm
 have HSx:=Lib.hid hsx
 have HS0:=Lib.hid hS
 obtain ⟨d0,hd0⟩:∃ d0,d0 = m - a:=⟨_,rfl⟩
 have w0:IntKind.i64.wrap ((m:Int) - (a:Int)) = (d0:Int):=by rw [IntKind.wrap_i64];omega
 have w00:((d0:Int) == 1) = false:=by rw [beq_eq_false_iff_ne];omega
 have w01:IntKind.i64.wrap ((b:Int) - (m:Int)) = 1:=by rw [IntKind.wrap_i64];omega
 clear hS hL hlen ha hb hA hsx hsm hm hd0 h2
 unfold cmpV
 go_enter Tryz.func195,Tryz.ntmps195
 go_wp2
 go_loopw [14,15] (fun vi vj wr=>∃ i j:Nat,vi = .int .i64 i∧vj = .int .i64 j∧a ≤ i∧i ≤ j∧j ≤ m∧Hid ((i = a ∨ ∃ x,A[i - 1 - a]? = some x∧¬ ltT y x)∧(j = m ∨ ∃ x,A[j - a]? = some x∧ltT y x)∧SR W g (P ++ (A ++ ([y] ++ Q))) wr)) (fun vi vj _=>(intOf vj).toNat - (intOf vi).toNat)
 case atStart=>exact ⟨a,m,rfl,rfl,by omega,by omega,by omega,Lib.hid ⟨.inl rfl,.inl rfl,HS0.out⟩⟩
 case round =>
  obtain ⟨i,j,rfl,rfl,hmi,hij,hjb,HR⟩:=hrel
  clear HS0 w0 w00 w01
  by_cases hlt:i < j
  ·
   have hd:decide (i < j) = true:=decide_eq_true hlt
   obtain ⟨h,hh⟩:∃ h,h = (i + j) / 2:=⟨_,rfl⟩
   have hq:((i:Int) + (j:Int)) / 2 = (h:Int):=by omega
   have hhb:(h:Int) < (L:Int):=by omega
   have hab:(m:Int) < (L:Int):=by omega
   have hih:i ≤ h:=by omega
   have hhj:h < j:=by omega
   clear hh
   have hAl:h - a < A.length:=by have h1:=HA.out.1;have h2:=HA.out.2.1;omega
   obtain ⟨x,hx⟩:∃ x,A[h - a]? = some x:=⟨_,List.getElem?_eq_getElem hAl⟩
   have hrow:(P ++ (A ++ ([y] ++ Q)))[h]? = some x:=by
    rw [← hx,← at_A (P:=P) (A:=A) (B:=[y]) (Q:=Q) hAl]
    congr 1
    have:=HA.out.1
    omega
   have hrow0:(P ++ (A ++ ([y] ++ Q)))[m]? = some y:=by
    have:=at_B (P:=P) (A:=A) (B:=[y]) (Q:=Q) (k:=0) (by simp)
    rw [HA.out.2.1]
    rw [Nat.add_zero] at this
    rw [this]
    try rfl
   have hch:=HR.out.2.2.at hrow
   have hcm:=HR.out.2.2.at hrow0
   have hgl:=hch.lt
   have HBk:Hid (∀ w2,Below wr.heap.size wr w2 → SR W g (P ++ (A ++ ([y] ++ Q))) w2):=Lib.hid (fun w2 hb=>HR.out.2.2.below hgl hb)
   have HC:=Lib.hid (fun w=>cmp_calls y x HSx.out (HSm.out x (List.mem_of_getElem? hx)) w)
   have HLt:Hid (cmpT y x < 0 ↔ ltT y x):=Lib.hid Iff.rfl
   have HX:=Lib.hid hx
   have HI:=Lib.hid HR.out.1
   have HJ:=Lib.hid HR.out.2.1
   obtain ⟨v,hv⟩:∃ v,v = cmpT y x:=⟨_,rfl⟩
   rw [← hv] at HC HLt
   clear hv hx hrow hrow0 hAl HR
   by_cases hvn:v < 0
   ·
    have hvd:decide (v < 0) = true:=decide_eq_true hvn
    have HYL:Hid (ltT y x):=Lib.hid (HLt.out.1 hvn)
    have HJ2:Hid (h = m ∨ ∃ x,A[h - a]? = some x∧ltT y x):=Lib.hid (.inr ⟨x,HX.out,HYL.out⟩)
    clear hvn HLt HX HYL HJ
    obtain ⟨⟨sk',sx',se'⟩,⟨pk',px',pe'⟩,⟨ok',ox',oe'⟩⟩:=y
    obtain ⟨⟨sk,sx,se⟩,⟨pk,px,pe⟩,⟨ok,ox,oe⟩⟩:=x
    have y0:=fun p=>(hcm.bel p).c0
    have y1:=fun p=>(hcm.bel p).c1
    have y2:=fun p=>(hcm.bel p).c2
    have y3:=fun p=>(hcm.bel p).c3
    have y4:=fun p=>(hcm.bel p).c4
    have y5:=fun p=>(hcm.bel p).c5
    have y6:=fun p=>(hcm.bel p).c6
    have y7:=fun p=>(hcm.bel p).c7
    have y8:=fun p=>(hcm.bel p).c8
    have x0:=fun p=>(hch.bel p).c0
    have x1:=fun p=>(hch.bel p).c1
    have x2:=fun p=>(hch.bel p).c2
    have x3:=fun p=>(hch.bel p).c3
    have x4:=fun p=>(hch.bel p).c4
    have x5:=fun p=>(hch.bel p).c5
    have x6:=fun p=>(hch.bel p).c6
    have x7:=fun p=>(hch.bel p).c7
    have x8:=fun p=>(hch.bel p).c8
    dsimp only at y0 y1 y2 y3 y4 y5 y6 y7 y8 x0 x1 x2 x3 x4 x5 x6 x7 x8
    unfold Ref5.tripleV at HC
    dsimp only at HC
    go_upto_region 17 with fail
    refine QT.region_all (by kernel_rfl) (by kernel_rfl) ?_
    iterate 9 (go_big_quiet_step (fail))
    go_big_quiet_step (exact QT.Bel.call _ (HC.out _))
    iterate 2 (go_big_quiet_step (fail))
    refine wpQuiet_nil ?_
    intro w2 hw'
    obtain ⟨⟨_,hb⟩,rfl⟩:=hw'
    have HS2:=Lib.hid (HBk.out w2 hb)
    clear hb y0 y1 y2 y3 y4 y5 y6 y7 y8 x0 x1 x2 x3 x4 x5 x6 x7 x8 hch hcm
    go_wp2
    go_roundw
    case rel=>exact ⟨i,h,rfl,by go_num,hmi,by omega,by omega,Lib.hid ⟨HI.out,HJ2.out,HS2.out⟩⟩
    case measure=>simp [intOf];omega
   ·
    have hvd:decide (v < 0) = false:=decide_eq_false hvn
    have HYL:Hid (¬ ltT y x):=Lib.hid (fun hl=>hvn (HLt.out.2 hl))
    have HI2:Hid (h + 1 = a ∨ ∃ x,A[h + 1 - 1 - a]? = some x∧¬ ltT y x):=Lib.hid (.inr ⟨x,by rw [show h + 1 - 1 - a = h - a by omega];exact HX.out,HYL.out⟩)
    clear hvn HLt HX HYL HI
    obtain ⟨⟨sk',sx',se'⟩,⟨pk',px',pe'⟩,⟨ok',ox',oe'⟩⟩:=y
    obtain ⟨⟨sk,sx,se⟩,⟨pk,px,pe⟩,⟨ok,ox,oe⟩⟩:=x
    have y0:=fun p=>(hcm.bel p).c0
    have y1:=fun p=>(hcm.bel p).c1
    have y2:=fun p=>(hcm.bel p).c2
    have y3:=fun p=>(hcm.bel p).c3
    have y4:=fun p=>(hcm.bel p).c4
    have y5:=fun p=>(hcm.bel p).c5
    have y6:=fun p=>(hcm.bel p).c6
    have y7:=fun p=>(hcm.bel p).c7
    have y8:=fun p=>(hcm.bel p).c8
    have x0:=fun p=>(hch.bel p).c0
    have x1:=fun p=>(hch.bel p).c1
    have x2:=fun p=>(hch.bel p).c2
    have x3:=fun p=>(hch.bel p).c3
    have x4:=fun p=>(hch.bel p).c4
    have x5:=fun p=>(hch.bel p).c5
    have x6:=fun p=>(hch.bel p).c6
    have x7:=fun p=>(hch.bel p).c7
    have x8:=fun p=>(hch.bel p).c8
    dsimp only at y0 y1 y2 y3 y4 y5 y6 y7 y8 x0 x1 x2 x3 x4 x5 x6 x7 x8
    unfold Ref5.tripleV at HC
    dsimp only at HC
    go_upto_region 17 with fail
    refine QT.region_all (by kernel_rfl) (by kernel_rfl) ?_
    iterate 9 (go_big_quiet_step (fail))
    go_big_quiet_step (exact QT.Bel.call _ (HC.out _))
    iterate 2 (go_big_quiet_step (fail))
    refine wpQuiet_nil ?_
    intro w2 hw'
    obtain ⟨⟨_,hb⟩,rfl⟩:=hw'
    have HS2:=Lib.hid (HBk.out w2 hb)
    clear hb y0 y1 y2 y3 y4 y5 y6 y7 y8 x0 x1 x2 x3 x4 x5 x6 x7 x8 hch hcm
    go_wp2
    go_roundw
    case rel=>exact ⟨h + 1,j,by go_num,rfl,by omega,by omega,hjb,Lib.hid ⟨HI2.out,HJ.out,HS2.out⟩⟩
    case measure=>simp [intOf];omega
  ·
   have hd:decide (i < j) = false:=decide_eq_false hlt
   obtain rfl:i = j:=by omega
   obtain ⟨n,hn⟩:∃ n,n = i - a:=⟨_,rfl⟩
   have HSorted:Hid (Sorted' (A.take n ++ y :: A.drop n)∧(A.take n ++ y :: A.drop n).Perm (A ++ [y])∧n ≤ A.length):=Lib.hid (by
    obtain ⟨h1,h2,_⟩:=HR.out
    have h3:=HA.out.1
    have h4:=HA.out.2.1
    refine ⟨one_in HAs.out ?_ ?_,(one_perm A y n).trans List.perm_append_comm,by omega⟩
    ·
     rcases h1 with h1 | ⟨x,hx,hl⟩
     ·
      left;omega
     ·
      right;exact ⟨x,by rw [← hx];congr 1;omega,hl⟩
    ·
     rcases h2 with h2 | ⟨x,hx,hl⟩
     ·
      left;omega
     ·
      right;exact ⟨x,by rw [← hx];congr 1,ltT_asymm hl⟩)
   have HR0:Hid (SR W g (P ++ (A.take A.length ++ (y :: (A.drop A.length ++ Q)))) wr):=Lib.hid (by
    rw [List.take_length,List.drop_length]
    exact HR.out.2.2)
   have hni:n + a = i:=by omega
   obtain ⟨nA,hnA⟩:∃ nA,nA = A.length:=⟨_,rfl⟩
   have hmA:m = a + nA:=by have h3:=HA.out.1;have h4:=HA.out.2.1;omega
   have HMA:=Lib.hid hmA
   have HNA:=Lib.hid hnA
   have hmn:n ≤ nA:=by rw [hnA];exact HSorted.out.2.2
   have hma:a ≤ m:=ham
   rw [← hnA] at HR0
   clear HR hn hnA hmA
   go_wp2
   go_loopw [17] (fun vk wr=>∃ k c:Nat,vk = .int .i64 k∧k ≤ m∧Hid (k = a + c)∧n ≤ c∧c ≤ nA∧Hid (SR W g (P ++ (A.take c ++ (y :: (A.drop c ++ Q)))) wr)) (fun vk _=>(intOf vk).toNat - a)
   case atStart=>exact ⟨m,nA,rfl,by omega,HMA,by omega,by omega,HR0⟩
   case round =>
    obtain ⟨k,c,rfl,hkm,HKC,hcn,hcA,HR⟩:=hrel
    clear HR0
    by_cases hck:n < c
    ·
     have hik:i < k:=by have:=HKC.out;omega
     have hd2:decide (i < k) = true:=decide_eq_true hik
     obtain ⟨k1,hk1⟩:∃ k1,k1 + 1 = k:=⟨k - 1,by omega⟩
     obtain ⟨c1,hc1⟩:∃ c1,c1 + 1 = c:=⟨c - 1,by omega⟩
     have wk:IntKind.i64.wrap ((k:Int) - 1) = (k1:Int):=by rw [IntKind.wrap_i64];omega
     have hkL:(k:Int) < (L:Int):=by omega
     have hk1L:(k1:Int) < (L:Int):=by omega
     have hcB:c1 < A.length:=by have:=HNA.out;omega
     obtain ⟨x,hx⟩:∃ x,x = A[c1]:=⟨_,rfl⟩
     have hdrop:A.drop c1 = x :: A.drop c:=by rw [hx,← hc1];exact List.drop_eq_getElem_cons hcB
     have htake:A.take c = A.take c1 ++ [x]:=by rw [hx,← hc1,List.take_succ_eq_append_getElem hcB]
     have hlenT:(P ++ A.take c1).length = k1:=by rw [List.length_append,List.length_take];have:=HA.out.1;have:=HKC.out;omega
     have HS9:SR W g ((P ++ A.take c1) ++ (x :: y :: (A.drop c ++ Q))) wr:=by
      have:=HR.out
      rw [htake] at this
      simpa [List.append_assoc] using this
     have gx:((P ++ A.take c1) ++ (x :: y :: (A.drop c ++ Q)))[k1]? = some x:=by rw [List.getElem?_append_right (by omega),hlenT];simp
     have gy:((P ++ A.take c1) ++ (x :: y :: (A.drop c ++ Q)))[k]? = some y:=by rw [List.getElem?_append_right (by omega),hlenT,show k - k1 = 1 by omega];simp
     obtain ⟨lx,ex⟩:=List.getElem?_eq_some_iff.1 gx
     obtain ⟨ly,ey⟩:=List.getElem?_eq_some_iff.1 gy
     have HSwF:Hid (SR W g (P ++ (A.take c1 ++ (y :: (A.drop c1 ++ Q)))) (put9 (put9 wr g (k * 9) x) g (k1 * 9) y).drew):=Lib.hid (by
      have hSw:=HS9.swap k k1 ly lx
      rw [ex,ey,show k = (P ++ A.take c1).length + 1 by omega,← hlenT,swap_adj] at hSw
      rw [hlenT,hk1] at hSw
      have h2:=hSw.drew
      rw [hdrop]
      simpa [List.append_assoc] using h2)
     have hcx:=HS9.at gx
     have hcy:=HS9.at gy
     have fx:=HS9.free9 k1 lx
     have fy:=HS9.free9 k ly
     have h9:k1 * 9 + 9 ≤ k * 9:=by omega
     have HK1:=Lib.hid hk1
     have HC1:=Lib.hid hc1
     have HKC2:Hid (k1 = a + c1):=Lib.hid (by have:=HKC.out;omega)
     have hb1:k1 < k:=by omega
     have hb2:n ≤ c1:=by omega
     have hb3:c1 ≤ nA:=by omega
     have hb4:a < k:=by omega
     clear gx gy lx ly ex ey HS9 hlenT htake hdrop hx hcB hc1
     obtain ⟨⟨sk',sx',se'⟩,⟨pk',px',pe'⟩,⟨ok',ox',oe'⟩⟩:=y
     obtain ⟨⟨sk,sx,se⟩,⟨pk,px,pe⟩,⟨ok,ox,oe⟩⟩:=x
     unfold put9 at HSwF
     dsimp only at HSwF
     obtain ⟨x0,x1,x2,x3,x4,x5,x6,x7,x8⟩:=hcx
     obtain ⟨y0,y1,y2,y3,y4,y5,y6,y7,y8⟩:=hcy
     obtain ⟨f0,f1,f2,f3,f4,f5,f6,f7,f8⟩:=fx
     obtain ⟨e0,e1,e2,e3,e4,e5,e6,e7,e8⟩:=fy
     dsimp only at x0 x1 x2 x3 x4 x5 x6 x7 x8 y0 y1 y2 y3 y4 y5 y6 y7 y8
     have D1:∀ e d,d < 9 → (k * 9 + e = k1 * 9 + d) = False:=fun e d hd=>eq_false (by omega)
     have D2:∀ d,d < 9 → (k * 9 = k1 * 9 + d) = False:=fun d hd=>eq_false (by omega)
     have D3:∀ e,(k * 9 + e = k1 * 9) = False:=fun e=>eq_false (by omega)
     have D4:(k * 9 = k1 * 9) = False:=eq_false (by omega)
     have D5:∀ e d,d < 9 → (k1 * 9 + d = k * 9 + e) = False:=fun e d hd=>eq_false (by omega)
     have D6:∀ d,d < 9 → (k1 * 9 + d = k * 9) = False:=fun d hd=>eq_false (by omega)
     have D7:∀ e,(k1 * 9 = k * 9 + e) = False:=fun e=>eq_false (by omega)
     have D8:(k1 * 9 = k * 9) = False:=eq_false (by omega)
     clear h9 hk1
     go_upto_region 23 with fail
     go_big_region
     all_goals go_wp2
     go_roundw
     case rel=>exact ⟨k1,c1,by go_num,by omega,HKC2,hb2,hb3,HSwF⟩
     case measure=>simp [intOf];omega
    ·
     have hki:k = i:=by have:=HKC.out;omega
     have hd2:decide (i < k) = false:=decide_eq_false (by omega)
     have hcn2:c = n:=by omega
     have HR9:Hid (SR W g (P ++ ((A.take n ++ y :: A.drop n) ++ Q)) wr):=Lib.hid (by rw [← hcn2,List.append_assoc];exact HR.out)
     clear hki hcn2
     go_wp2
     ((try simp only [Exit.inBlock,Exit.then]);refine bodyPost_ret (results_none rfl _ _ _) rfl ?_)
     exact ⟨rfl,_,HSorted.out.2.1,HSorted.out.1,HR9.out⟩
end Go.Proofs.YtnplommdgfgboaaGreatDoor.SortW
namespace Go.Proofs.YtnplommdgfgboaaGreatDoor.SortW
open Go.RowKit Go.Lib B Rd Utf TermPure LinesPure Tx Env Tri SortP Print Cmp Long
def SymC (L cap g:Nat) (W:World) (N:Nat):Prop:=∀ (P A B Q:List Triple) (a m b:Nat) (w:World),A.length + B.length ≤ N → 0 < A.length → 0 < B.length → (P ++ (A ++ (B ++ Q))).length = L →
  a = P.length → m = a + A.length → b = m + B.length → Sorted' A → Sorted' B → (∀ t ∈ A ++ B,SmallT t) → SR W g (P ++ (A ++ (B ++ Q))) w → Calls Tryz.prog 195 #[.slice (some ⟨g,0,none⟩) L cap,.int .i64 a,.int .i64 m,.int .i64 b,cmpV] w fun e w'=>e = .returned (.tuple #[])∧∃ R,R.Perm (A ++ B)∧Sorted' R∧SR W g (P ++ (R ++ Q)) w'
set_option maxHeartbeats 25600000 in
set_option maxRecDepth 100000 in
theorem sym_gen1 (L cap:Nat) (hLs:L ≤ 140737488355328) (g:Nat) (W:World) (N:Nat) (hIH:SymC L cap g W N) (P A B Q:List Triple) (a m b:Nat) (w:World) (hN:A.length + B.length ≤ N + 1) (hA0:0 < A.length) (hB0:0 < B.length) (hL:(P ++ (A ++ (B ++ Q))).length = L) (ha:a = P.length) (hm:m = a + A.length) (hb:b = m + B.length) (hA:Sorted' A) (hB:Sorted' B) (hsm:∀ t ∈ A ++ B,SmallT t) (hS:SR W g (P ++ (A ++ (B ++ Q))) w) (c1:¬ A.length = 1) (c2:¬ B.length = 1) (hcase:(a + b) / 2 < m) :
  Calls Tryz.prog 195 #[.slice (some ⟨g,0,none⟩) L cap,.int .i64 a,.int .i64 m,.int .i64 b,cmpV] w fun e w'=>e = .returned (.tuple #[])∧∃ R,R.Perm (A ++ B)∧Sorted' R∧SR W g (P ++ (R ++ Q)) w':=by
 have hlen:=hL
 simp only [List.length_append] at hlen
 have IH:=Lib.hid hIH
 obtain ⟨d0,hd0⟩:∃ d0,d0 = m - a:=⟨_,rfl⟩
 have w0:IntKind.i64.wrap ((m:Int) - (a:Int)) = (d0:Int):=by rw [IntKind.wrap_i64];omega
 have w00:((d0:Int) == 1) = false:=by rw [beq_eq_false_iff_ne];omega
 obtain ⟨d1,hd1⟩:∃ d1,d1 = b - m:=⟨_,rfl⟩
 have w1:IntKind.i64.wrap ((b:Int) - (m:Int)) = (d1:Int):=by rw [IntKind.wrap_i64];omega
 have w11:((d1:Int) == 1) = false:=by rw [beq_eq_false_iff_ne];omega
 obtain ⟨mid,hmid⟩:∃ mid,mid = (a + b) / 2:=⟨_,rfl⟩
 have hq:((a:Int) + (b:Int)) / 2 = (mid:Int):=by omega
 obtain ⟨n,hn⟩:∃ n,n = mid + m:=⟨_,rfl⟩
 have wn:IntKind.i64.wrap ((mid:Int) + (m:Int)) = (n:Int):=by rw [IntKind.wrap_i64];omega
 obtain ⟨p,hp⟩:∃ p,p + 1 = n:=⟨n - 1,by omega⟩
 have wp:IntKind.i64.wrap ((n:Int) - 1) = (p:Int):=by rw [IntKind.wrap_i64];omega
 rw [← hmid] at hcase
 obtain ⟨s0,hs0⟩:∃ s0,s0 + b = n:=⟨n - b,by omega⟩
 have HSR:Hid ((mid < m∧s0 + b = n∧mid = mid) ∨ (m ≤ mid∧s0 = a∧mid = m)):=Lib.hid (.inl ⟨hcase,hs0,rfl⟩)
 have hdm:decide (mid < m) = true:=decide_eq_true hcase
 have ws:IntKind.i64.wrap ((n:Int) - (b:Int)) = (s0:Int):=by rw [IntKind.wrap_i64];omega
 have hbds:a ≤ s0∧s0 ≤ mid∧mid ≤ m∧s0 ≤ n:=by omega
 have hin:∀ c,s0 ≤ c → c < mid → m ≤ p - c∧p - c < b∧a ≤ c∧c < m∧c ≤ p:=fun c h1 h2=>by omega
 clear hs0
 obtain ⟨hb1,hb2,hb3,hb4⟩:=hbds
 have hbL:b ≤ L:=by omega
 have ham:a < m:=by omega
 have hmb:m < b:=by omega
 have hamid:a < mid:=by omega
 have hmidb:mid < b:=by omega
 have HIn:=Lib.hid hin
 have HA:=Lib.hid (show a = P.length∧m = P.length + A.length∧b = m + B.length∧mid = (a + b) / 2∧n = mid + m∧p + 1 = n∧A.length + B.length ≤ N + 1 from ⟨ha,by omega,hb,hmid,hn,hp,hN⟩)
 have HAs:=Lib.hid hA
 have HBs:=Lib.hid hB
 have HSm:=Lib.hid hsm
 have HS0:=Lib.hid hS
 have HL:=Lib.hid hL
 clear hin hS hL hlen ha hb hA hB hsm hm hd0 hd1 hmid hn hp c1 c2 hA0 hB0 hN hIH
 unfold cmpV at *
 go_enter Tryz.func195,Tryz.ntmps195
 go_wp2
 go_loopw [20,21] (fun vi vj wr=>∃ i j:Nat,vi = .int .i64 i∧vj = .int .i64 j∧s0 ≤ i∧i ≤ j∧j ≤ mid∧Hid ((i = s0 ∨ ∃ u v,A[i - 1 - a]? = some u∧B[n - i - m]? = some v∧¬ ltT v u)∧(j = mid ∨ ∃ u v,A[j - a]? = some u∧B[p - j - m]? = some v∧ltT v u)∧SR W g (P ++ (A ++ (B ++ Q))) wr)) (fun vi vj _=>(intOf vj).toNat - (intOf vi).toNat)
 case atStart=>exact ⟨s0,mid,rfl,rfl,by omega,by omega,by omega,Lib.hid ⟨.inl rfl,.inl rfl,HS0.out⟩⟩
 case round =>
 obtain ⟨i,j,rfl,rfl,hmi,hij,hjb,HR⟩:=hrel
 clear HS0 w0 w00 w1 w11 hq wn ws
 by_cases hlt:i < j
 ·
  have hd:decide (i < j) = true:=decide_eq_true hlt
  obtain ⟨h,hh⟩:∃ h,h = (i + j) / 2:=⟨_,rfl⟩
  have hq:((i:Int) + (j:Int)) / 2 = (h:Int):=by omega
  have hih:i ≤ h:=by omega
  have hhj:h < j:=by omega
  clear hh
  obtain ⟨i1,i2,i3,i4,i5⟩:=HIn.out h (by omega) (by omega)
  obtain ⟨pc,hpc⟩:∃ pc,pc = p - h:=⟨_,rfl⟩
  have wpc:IntKind.i64.wrap ((p:Int) - (h:Int)) = (pc:Int):=by rw [IntKind.wrap_i64];omega
  have hhb:(h:Int) < (L:Int):=by omega
  have hab:(pc:Int) < (L:Int):=by omega
  have hAl:h - a < A.length:=by have h1:=HA.out.1;have h2:=HA.out.2.1;omega
  have hBl:pc - m < B.length:=by have h1:=HA.out.2.2.1;omega
  obtain ⟨x,hu⟩:∃ x,A[h - a]? = some x:=⟨_,List.getElem?_eq_getElem hAl⟩
  obtain ⟨y,hv⟩:∃ y,B[pc - m]? = some y:=⟨_,List.getElem?_eq_getElem hBl⟩
  have hrow:(P ++ (A ++ (B ++ Q)))[h]? = some x:=by
   rw [← hu,← at_A (P:=P) (A:=A) (B:=B) (Q:=Q) hAl]
   congr 1
   have:=HA.out.1
   omega
  have hrow0:(P ++ (A ++ (B ++ Q)))[pc]? = some y:=by
   rw [← hv,← at_B (P:=P) (A:=A) (B:=B) (Q:=Q) hBl]
   congr 1
   have:=HA.out.2.1
   omega
  have hcu:=HR.out.2.2.at hrow
  have hcv:=HR.out.2.2.at hrow0
  have hgl:=hcu.lt
  have HBk:Hid (∀ w2,Below wr.heap.size wr w2 → SR W g (P ++ (A ++ (B ++ Q))) w2):=Lib.hid (fun w2 hb=>HR.out.2.2.below hgl hb)
  have HC:=Lib.hid (fun w=>cmp_calls y x (HSm.out y (List.mem_append_right _ (List.mem_of_getElem? hv))) (HSm.out x (List.mem_append_left _ (List.mem_of_getElem? hu))) w)
  have HLt:Hid (cmpT y x < 0 ↔ ltT y x):=Lib.hid Iff.rfl
  have HU:Hid (A[h - a]? = some x∧B[p - h - m]? = some y∧B[n - (h + 1) - m]? = some y):=Lib.hid ⟨hu,by rw [← hpc];exact hv,by rw [← hv];congr 1;have:=HA.out.2.2.2.2.2.1;omega⟩
  have HI:=Lib.hid HR.out.1
  have HJ:=Lib.hid HR.out.2.1
  obtain ⟨r,hr⟩:∃ r,r = cmpT y x:=⟨_,rfl⟩
  rw [← hr] at HC HLt
  clear hr hu hv hrow hrow0 hAl hBl HR hpc
  by_cases hvn:r < 0
  ·
   have hvd:decide (r < 0) = true:=decide_eq_true hvn
   have HYL:Hid (ltT y x):=Lib.hid (HLt.out.1 hvn)
   have HJ2:Hid (h = mid ∨ ∃ u v,A[h - a]? = some u∧B[p - h - m]? = some v∧ltT v u):=Lib.hid (.inr ⟨x,y,HU.out.1,HU.out.2.1,HYL.out⟩)
   clear hvn HLt HU HYL HJ
   obtain ⟨⟨sk',sx',se'⟩,⟨pk',px',pe'⟩,⟨ok',ox',oe'⟩⟩:=y
   obtain ⟨⟨sk,sx,se⟩,⟨pk,px,pe⟩,⟨ok,ox,oe⟩⟩:=x
   have y0:=fun p=>(hcv.bel p).c0
   have y1:=fun p=>(hcv.bel p).c1
   have y2:=fun p=>(hcv.bel p).c2
   have y3:=fun p=>(hcv.bel p).c3
   have y4:=fun p=>(hcv.bel p).c4
   have y5:=fun p=>(hcv.bel p).c5
   have y6:=fun p=>(hcv.bel p).c6
   have y7:=fun p=>(hcv.bel p).c7
   have y8:=fun p=>(hcv.bel p).c8
   have x0:=fun p=>(hcu.bel p).c0
   have x1:=fun p=>(hcu.bel p).c1
   have x2:=fun p=>(hcu.bel p).c2
   have x3:=fun p=>(hcu.bel p).c3
   have x4:=fun p=>(hcu.bel p).c4
   have x5:=fun p=>(hcu.bel p).c5
   have x6:=fun p=>(hcu.bel p).c6
   have x7:=fun p=>(hcu.bel p).c7
   have x8:=fun p=>(hcu.bel p).c8
   dsimp only at y0 y1 y2 y3 y4 y5 y6 y7 y8 x0 x1 x2 x3 x4 x5 x6 x7 x8
   unfold Ref5.tripleV at HC
   dsimp only at HC
   go_upto_region 35 with fail
   refine QT.region_all (by kernel_rfl) (by kernel_rfl) ?_
   iterate 11 (go_big_quiet_step (fail))
   go_big_quiet_step (exact QT.Bel.call _ (HC.out _))
   iterate 2 (go_big_quiet_step (fail))
   refine wpQuiet_nil ?_
   intro w2 hw'
   obtain ⟨⟨_,hb⟩,rfl⟩:=hw'
   have HS2:=Lib.hid (HBk.out w2 hb)
   clear hb y0 y1 y2 y3 y4 y5 y6 y7 y8 x0 x1 x2 x3 x4 x5 x6 x7 x8 hcu hcv
   go_wp2
   go_roundw
   case rel=>exact ⟨i,h,rfl,by go_num,hmi,by omega,by omega,Lib.hid ⟨HI.out,HJ2.out,HS2.out⟩⟩
   case measure=>simp [intOf];omega
  ·
   have hvd:decide (r < 0) = false:=decide_eq_false hvn
   have HYL:Hid (¬ ltT y x):=Lib.hid (fun hl=>hvn (HLt.out.2 hl))
   have HI2:Hid (h + 1 = s0 ∨ ∃ u v,A[h + 1 - 1 - a]? = some u∧B[n - (h + 1) - m]? = some v∧¬ ltT v u):=Lib.hid (.inr ⟨x,y,by rw [show h + 1 - 1 - a = h - a by omega];exact HU.out.1,HU.out.2.2,HYL.out⟩)
   clear hvn HLt HU HYL HI
   obtain ⟨⟨sk',sx',se'⟩,⟨pk',px',pe'⟩,⟨ok',ox',oe'⟩⟩:=y
   obtain ⟨⟨sk,sx,se⟩,⟨pk,px,pe⟩,⟨ok,ox,oe⟩⟩:=x
   have y0:=fun p=>(hcv.bel p).c0
   have y1:=fun p=>(hcv.bel p).c1
   have y2:=fun p=>(hcv.bel p).c2
   have y3:=fun p=>(hcv.bel p).c3
   have y4:=fun p=>(hcv.bel p).c4
   have y5:=fun p=>(hcv.bel p).c5
   have y6:=fun p=>(hcv.bel p).c6
   have y7:=fun p=>(hcv.bel p).c7
   have y8:=fun p=>(hcv.bel p).c8
   have x0:=fun p=>(hcu.bel p).c0
   have x1:=fun p=>(hcu.bel p).c1
   have x2:=fun p=>(hcu.bel p).c2
   have x3:=fun p=>(hcu.bel p).c3
   have x4:=fun p=>(hcu.bel p).c4
   have x5:=fun p=>(hcu.bel p).c5
   have x6:=fun p=>(hcu.bel p).c6
   have x7:=fun p=>(hcu.bel p).c7
   have x8:=fun p=>(hcu.bel p).c8
   dsimp only at y0 y1 y2 y3 y4 y5 y6 y7 y8 x0 x1 x2 x3 x4 x5 x6 x7 x8
   unfold Ref5.tripleV at HC
   dsimp only at HC
   go_upto_region 35 with fail
   refine QT.region_all (by kernel_rfl) (by kernel_rfl) ?_
   iterate 11 (go_big_quiet_step (fail))
   go_big_quiet_step (exact QT.Bel.call _ (HC.out _))
   iterate 2 (go_big_quiet_step (fail))
   refine wpQuiet_nil ?_
   intro w2 hw'
   obtain ⟨⟨_,hb⟩,rfl⟩:=hw'
   have HS2:=Lib.hid (HBk.out w2 hb)
   clear hb y0 y1 y2 y3 y4 y5 y6 y7 y8 x0 x1 x2 x3 x4 x5 x6 x7 x8 hcu hcv
   go_wp2
   go_roundw
   case rel=>exact ⟨h + 1,j,by go_num,rfl,by omega,by omega,hjb,Lib.hid ⟨HI2.out,HJ.out,HS2.out⟩⟩
   case measure=>simp [intOf];omega
 ·
  have hd:decide (i < j) = false:=decide_eq_false hlt
  obtain rfl:i = j:=by omega
  obtain ⟨en,hen⟩:∃ en,en = n - i:=⟨_,rfl⟩
  have wen:IntKind.i64.wrap ((n:Int) - (i:Int)) = (en:Int):=by rw [IntKind.wrap_i64];have:=HA.out.2.2.2.2.1;omega
  have hbnd:a ≤ i∧i ≤ m∧m ≤ en∧en ≤ b∧mid + m = i + en∧i ≤ mid∧mid ≤ en:=by
   have h1:=HA.out.2.2.2.2.1
   have h2:=HA.out.2.2.2.1
   rcases HSR.out with ⟨h3,h4,h5⟩ | ⟨h3,h4,h5⟩ <;> omega
  obtain ⟨n1,n2,n3,n4,n5,n6,n7⟩:=hbnd
  obtain ⟨A1,hA1⟩:∃ A1,A1 = A.take (i - a):=⟨_,rfl⟩
  obtain ⟨A2,hA2⟩:∃ A2,A2 = A.drop (i - a):=⟨_,rfl⟩
  obtain ⟨B1,hB1⟩:∃ B1,B1 = B.take (en - m):=⟨_,rfl⟩
  obtain ⟨B2,hB2⟩:∃ B2,B2 = B.drop (en - m):=⟨_,rfl⟩
  have HLn:Hid (A1.length = i - a∧A2.length = m - i∧B1.length = en - m∧B2.length = b - en):=Lib.hid (by
   have h1:=HA.out.1;have h2:=HA.out.2.1;have h3:=HA.out.2.2.1
   rw [hA1,hA2,hB1,hB2,List.length_take,List.length_drop,List.length_take,List.length_drop]
   omega)
  have HAB:Hid (A = A1 ++ A2∧B = B1 ++ B2):=Lib.hid ⟨by rw [hA1,hA2,List.take_append_drop],by rw [hB1,hB2,List.take_append_drop]⟩
  have HHalf:Hid (∀ R1 R2,R1.Perm (A1 ++ B1) → R2.Perm (A2 ++ B2) → Sorted' R1 → Sorted' R2 → (R1 ++ R2).Perm (A ++ B)∧Sorted' (R1 ++ R2)):=Lib.hid (by
   intro R1 R2 p1 p2 s1 s2
   have h1:=HA.out.1;have h2:=HA.out.2.1;have h3:=HA.out.2.2.1;have h4:=HA.out.2.2.2.2.1;have h5:=HA.out.2.2.2.2.2.1
   refine halves (s:=i - a) (e:=en - m) HAs.out HBs.out ?_ ?_ (by rw [← hA1,← hB1];exact p1) (by rw [← hA2,← hB2];exact p2) s1 s2
   ·
    rcases HR.out.1 with h | ⟨u,v,hu,hv,hl⟩
    ·
     rcases HSR.out with ⟨h6,h7,h8⟩ | ⟨h6,h7,h8⟩
     ·
      right;left;omega
     ·
      left;omega
    ·
     right;right
     exact ⟨u,v,by rw [← hu];congr 1;omega,by rw [← hv];congr 1;omega,hl⟩
   ·
    rcases HR.out.2.1 with h | ⟨u,v,hu,hv,hl⟩
    ·
     rcases HSR.out with ⟨h6,h7,h8⟩ | ⟨h6,h7,h8⟩
     ·
      right;left;omega
     ·
      left;omega
    ·
     right;right
     exact ⟨v,u,by rw [← hv];congr 1;omega,hu,ltT_asymm hl⟩)
  have HSm2:Hid ((∀ t ∈ A1 ++ B1,SmallT t)∧(∀ t ∈ A2 ++ B2,SmallT t)):=Lib.hid (by
   have h:=HSm.out
   rw [HAB.out.1,HAB.out.2] at h
   refine ⟨fun t ht=>h t ?_,fun t ht=>h t ?_⟩
   ·
    rcases List.mem_append.1 ht with ht | ht <;> simp [ht]
   ·
    rcases List.mem_append.1 ht with ht | ht <;> simp [ht])
  have HSt:Hid (Sorted' A1∧Sorted' A2∧Sorted' B1∧Sorted' B2):=Lib.hid (by
   have hA:=HAs.out
   have hB:=HBs.out
   rw [HAB.out.1] at hA
   rw [HAB.out.2] at hB
   exact ⟨(List.pairwise_append.1 hA).1,(List.pairwise_append.1 hA).2.1,(List.pairwise_append.1 hB).1,(List.pairwise_append.1 hB).2.1⟩)
  have HRow:Hid (SR W g (P ++ (A1 ++ (A2 ++ (B1 ++ (B2 ++ Q))))) wr∧P.length + (A1.length + (A2.length + (B1.length + (B2.length + Q.length)))) = L):=Lib.hid (by
   have h:=HR.out.2.2
   have hl:=HL.out
   rw [HAB.out.1,HAB.out.2] at h hl
   refine ⟨by simpa [List.append_assoc] using h,?_⟩
   simp only [List.length_append] at hl
   omega)
  clear HR HAs HBs HSm HL hA1 hA2 hB1 hB2 hen
  have HTot:=Lib.hid HRow.out.2
  by_cases e1:i < m
  ·
   have x1:decide (i < m) = true:=decide_eq_true e1
   by_cases e2:m < en
   ·
    have x2:decide (m < en) = true:=decide_eq_true e2
    have HC:=Lib.hid (rotate_calls (.func (.func 119) #[] #[]) (P ++ A1) A2 B1 (B2 ++ Q) (by have:=HLn.out.2.1;omega) (by have:=HLn.out.2.2.1;omega) L (by have:=HRow.out.2;simp only [List.length_append];omega) hLs i m en cap (by have h1:=HLn.out.1;have h2:=HA.out.1;rw [List.length_append];omega) (by have:=HLn.out.2.1;omega) (by have:=HLn.out.2.2.1;omega) g W wr (by have:=HRow.out.1;rw [List.append_assoc];exact this))
    go_wp2_with fail
    refine HC.out.mono ?_
    rintro e w7 ⟨rfl,hS2⟩
    have HRow2:Hid (SR W g (P ++ (A1 ++ (B1 ++ (A2 ++ (B2 ++ Q))))) w7):=Lib.hid (by rw [← List.append_assoc];exact hS2)
    clear hS2 HRow HC
    by_cases e3:a < i
    ·
     have x3:decide (a < i) = true:=decide_eq_true e3
     by_cases e4:i < mid
     ·
      have x4:decide (i < mid) = true:=decide_eq_true e4
      have HC:=Lib.hid (IH.out P A1 B1 (A2 ++ (B2 ++ Q)) a i mid w7 (by have h1:=HLn.out.1;have h2:=HLn.out.2.2.1;have h3:=HA.out;omega) (by have:=HLn.out.1;omega) (by have:=HLn.out.2.2.1;omega) (by have:=HTot.out;simp only [List.length_append];omega) HA.out.1 (by have:=HLn.out.1;omega) (by have h2:=HLn.out.2.2.1;omega) HSt.out.1 HSt.out.2.2.1 HSm2.out.1 HRow2.out)
      go_wp2_with fail
      refine HC.out.mono ?_
      rintro e w8 ⟨rfl,R1,hp1,hs1,hS2⟩
      have HR1:=Lib.hid (show R1.Perm (A1 ++ B1)∧Sorted' R1∧SR W g (P ++ (R1 ++ (A2 ++ (B2 ++ Q)))) w8 from ⟨hp1,hs1,hS2⟩)
      clear hp1 hs1 hS2 HRow2 HC
      have HL1:Hid (R1.length = mid - a):=Lib.hid (by rw [HR1.out.1.length_eq,List.length_append,HLn.out.1,HLn.out.2.2.1];omega)
      by_cases e5:mid < en
      ·
       have x5:decide (mid < en) = true:=decide_eq_true e5
       by_cases e6:en < b
       ·
        have x6:decide (en < b) = true:=decide_eq_true e6
        have HC:=Lib.hid (IH.out (P ++ R1) A2 B2 Q mid en b w8 (by have h1:=HLn.out.2.1;have h2:=HLn.out.2.2.2;have h3:=HA.out;omega) (by have:=HLn.out.2.1;omega) (by have:=HLn.out.2.2.2;omega) (by have h0:=HTot.out;have h1:=HL1.out;have h2:=HLn.out;simp only [List.length_append];omega) (by have h1:=HL1.out;have h2:=HA.out.1;rw [List.length_append];omega) (by have:=HLn.out.2.1;omega) (by have h2:=HLn.out.2.2.2;omega) HSt.out.2.1 HSt.out.2.2.2 HSm2.out.2 (by rw [List.append_assoc];exact HR1.out.2.2))
        go_wp2_with fail
        refine HC.out.mono ?_
        rintro e w9 ⟨rfl,R2,hp2,hs2,hS2⟩
        have HEnd:Hid (∃ R,R.Perm (A ++ B)∧Sorted' R∧SR W g (P ++ (R ++ Q)) w9):=Lib.hid ⟨R1 ++ R2,(HHalf.out R1 R2 HR1.out.1 hp2 HR1.out.2.1 hs2).1,(HHalf.out R1 R2 HR1.out.1 hp2 HR1.out.2.1 hs2).2,by simpa [List.append_assoc] using hS2⟩
        clear hp2 hs2 hS2
        go_wp2
        go_end0
        exact ⟨rfl,HEnd.out⟩
       ·
        have x6:decide (en < b) = false:=decide_eq_false e6
        have HEnd:Hid (∃ R,R.Perm (A ++ B)∧Sorted' R∧SR W g (P ++ (R ++ Q)) w8):=Lib.hid (by
         have h0:B2 = []:=List.eq_nil_of_length_eq_zero (by have:=HLn.out.2.2.2;omega)
         have h:=HHalf.out R1 A2 HR1.out.1 (by rw [h0,List.append_nil]) HR1.out.2.1 HSt.out.2.1
         have h2:=HR1.out.2.2
         rw [h0] at h2
         exact ⟨_,h.1,h.2,by simpa [List.append_assoc] using h2⟩)
        go_wp2
        go_end0
        exact ⟨rfl,HEnd.out⟩
      ·
       have x5:decide (mid < en) = false:=decide_eq_false e5
       have HEnd:Hid (∃ R,R.Perm (A ++ B)∧Sorted' R∧SR W g (P ++ (R ++ Q)) w8):=Lib.hid (by
        have h0:A2 = []:=List.eq_nil_of_length_eq_zero (by have:=HLn.out.2.1;omega)
        have h:=HHalf.out R1 B2 HR1.out.1 (by rw [h0,List.nil_append]) HR1.out.2.1 HSt.out.2.2.2
        have h2:=HR1.out.2.2
        rw [h0] at h2
        exact ⟨_,h.1,h.2,by simpa [List.append_assoc] using h2⟩)
       go_wp2
       go_end0
       exact ⟨rfl,HEnd.out⟩
     ·
      have x4:decide (i < mid) = false:=decide_eq_false e4
      have HR1:Hid (A1.Perm (A1 ++ B1)∧Sorted' A1∧SR W g (P ++ (A1 ++ (A2 ++ (B2 ++ Q)))) w7):=Lib.hid (by
       have:B1 = []:=List.eq_nil_of_length_eq_zero (by have:=HLn.out.2.2.1;omega)
       have h:=HRow2.out
       rw [this] at h ⊢
       exact ⟨by rw [List.append_nil],HSt.out.1,h⟩)
      clear HRow2
      obtain ⟨R1,hR1⟩:∃ R1,R1 = A1:=⟨_,rfl⟩
      have HR1:Hid (R1.Perm (A1 ++ B1)∧Sorted' R1∧SR W g (P ++ (R1 ++ (A2 ++ (B2 ++ Q)))) w7):=Lib.hid (by rw [hR1];exact HR1.out)
      clear hR1
      have HL1:Hid (R1.length = mid - a):=Lib.hid (by rw [HR1.out.1.length_eq,List.length_append,HLn.out.1,HLn.out.2.2.1];omega)
      by_cases e5:mid < en
      ·
       have x5:decide (mid < en) = true:=decide_eq_true e5
       by_cases e6:en < b
       ·
        have x6:decide (en < b) = true:=decide_eq_true e6
        have HC:=Lib.hid (IH.out (P ++ R1) A2 B2 Q mid en b w7 (by have h1:=HLn.out.2.1;have h2:=HLn.out.2.2.2;have h3:=HA.out;omega) (by have:=HLn.out.2.1;omega) (by have:=HLn.out.2.2.2;omega) (by have h0:=HTot.out;have h1:=HL1.out;have h2:=HLn.out;simp only [List.length_append];omega) (by have h1:=HL1.out;have h2:=HA.out.1;rw [List.length_append];omega) (by have:=HLn.out.2.1;omega) (by have h2:=HLn.out.2.2.2;omega) HSt.out.2.1 HSt.out.2.2.2 HSm2.out.2 (by rw [List.append_assoc];exact HR1.out.2.2))
        go_wp2_with fail
        refine HC.out.mono ?_
        rintro e w9 ⟨rfl,R2,hp2,hs2,hS2⟩
        have HEnd:Hid (∃ R,R.Perm (A ++ B)∧Sorted' R∧SR W g (P ++ (R ++ Q)) w9):=Lib.hid ⟨R1 ++ R2,(HHalf.out R1 R2 HR1.out.1 hp2 HR1.out.2.1 hs2).1,(HHalf.out R1 R2 HR1.out.1 hp2 HR1.out.2.1 hs2).2,by simpa [List.append_assoc] using hS2⟩
        clear hp2 hs2 hS2
        go_wp2
        go_end0
        exact ⟨rfl,HEnd.out⟩
       ·
        have x6:decide (en < b) = false:=decide_eq_false e6
        have HEnd:Hid (∃ R,R.Perm (A ++ B)∧Sorted' R∧SR W g (P ++ (R ++ Q)) w7):=Lib.hid (by
         have h0:B2 = []:=List.eq_nil_of_length_eq_zero (by have:=HLn.out.2.2.2;omega)
         have h:=HHalf.out R1 A2 HR1.out.1 (by rw [h0,List.append_nil]) HR1.out.2.1 HSt.out.2.1
         have h2:=HR1.out.2.2
         rw [h0] at h2
         exact ⟨_,h.1,h.2,by simpa [List.append_assoc] using h2⟩)
        go_wp2
        go_end0
        exact ⟨rfl,HEnd.out⟩
      ·
       have x5:decide (mid < en) = false:=decide_eq_false e5
       have HEnd:Hid (∃ R,R.Perm (A ++ B)∧Sorted' R∧SR W g (P ++ (R ++ Q)) w7):=Lib.hid (by
        have h0:A2 = []:=List.eq_nil_of_length_eq_zero (by have:=HLn.out.2.1;omega)
        have h:=HHalf.out R1 B2 HR1.out.1 (by rw [h0,List.nil_append]) HR1.out.2.1 HSt.out.2.2.2
        have h2:=HR1.out.2.2
        rw [h0] at h2
        exact ⟨_,h.1,h.2,by simpa [List.append_assoc] using h2⟩)
       go_wp2
       go_end0
       exact ⟨rfl,HEnd.out⟩
    ·
     have x3:decide (a < i) = false:=decide_eq_false e3
     have HR1:Hid (B1.Perm (A1 ++ B1)∧Sorted' B1∧SR W g (P ++ (B1 ++ (A2 ++ (B2 ++ Q)))) w7):=Lib.hid (by
      have:A1 = []:=List.eq_nil_of_length_eq_zero (by have:=HLn.out.1;omega)
      have h:=HRow2.out
      rw [this] at h ⊢
      exact ⟨List.Perm.refl _,HSt.out.2.2.1,h⟩)
     clear HRow2
     obtain ⟨R1,hR1⟩:∃ R1,R1 = B1:=⟨_,rfl⟩
     have HR1:Hid (R1.Perm (A1 ++ B1)∧Sorted' R1∧SR W g (P ++ (R1 ++ (A2 ++ (B2 ++ Q)))) w7):=Lib.hid (by rw [hR1];exact HR1.out)
     clear hR1
     have HL1:Hid (R1.length = mid - a):=Lib.hid (by rw [HR1.out.1.length_eq,List.length_append,HLn.out.1,HLn.out.2.2.1];omega)
     by_cases e5:mid < en
     ·
      have x5:decide (mid < en) = true:=decide_eq_true e5
      by_cases e6:en < b
      ·
       have x6:decide (en < b) = true:=decide_eq_true e6
       have HC:=Lib.hid (IH.out (P ++ R1) A2 B2 Q mid en b w7 (by have h1:=HLn.out.2.1;have h2:=HLn.out.2.2.2;have h3:=HA.out;omega) (by have:=HLn.out.2.1;omega) (by have:=HLn.out.2.2.2;omega) (by have h0:=HTot.out;have h1:=HL1.out;have h2:=HLn.out;simp only [List.length_append];omega) (by have h1:=HL1.out;have h2:=HA.out.1;rw [List.length_append];omega) (by have:=HLn.out.2.1;omega) (by have h2:=HLn.out.2.2.2;omega) HSt.out.2.1 HSt.out.2.2.2 HSm2.out.2 (by rw [List.append_assoc];exact HR1.out.2.2))
       go_wp2_with fail
       refine HC.out.mono ?_
       rintro e w9 ⟨rfl,R2,hp2,hs2,hS2⟩
       have HEnd:Hid (∃ R,R.Perm (A ++ B)∧Sorted' R∧SR W g (P ++ (R ++ Q)) w9):=Lib.hid ⟨R1 ++ R2,(HHalf.out R1 R2 HR1.out.1 hp2 HR1.out.2.1 hs2).1,(HHalf.out R1 R2 HR1.out.1 hp2 HR1.out.2.1 hs2).2,by simpa [List.append_assoc] using hS2⟩
       clear hp2 hs2 hS2
       go_wp2
       go_end0
       exact ⟨rfl,HEnd.out⟩
      ·
       have x6:decide (en < b) = false:=decide_eq_false e6
       have HEnd:Hid (∃ R,R.Perm (A ++ B)∧Sorted' R∧SR W g (P ++ (R ++ Q)) w7):=Lib.hid (by
        have h0:B2 = []:=List.eq_nil_of_length_eq_zero (by have:=HLn.out.2.2.2;omega)
        have h:=HHalf.out R1 A2 HR1.out.1 (by rw [h0,List.append_nil]) HR1.out.2.1 HSt.out.2.1
        have h2:=HR1.out.2.2
        rw [h0] at h2
        exact ⟨_,h.1,h.2,by simpa [List.append_assoc] using h2⟩)
       go_wp2
       go_end0
       exact ⟨rfl,HEnd.out⟩
     ·
      have x5:decide (mid < en) = false:=decide_eq_false e5
      have HEnd:Hid (∃ R,R.Perm (A ++ B)∧Sorted' R∧SR W g (P ++ (R ++ Q)) w7):=Lib.hid (by
       have h0:A2 = []:=List.eq_nil_of_length_eq_zero (by have:=HLn.out.2.1;omega)
       have h:=HHalf.out R1 B2 HR1.out.1 (by rw [h0,List.nil_append]) HR1.out.2.1 HSt.out.2.2.2
       have h2:=HR1.out.2.2
       rw [h0] at h2
       exact ⟨_,h.1,h.2,by simpa [List.append_assoc] using h2⟩)
      go_wp2
      go_end0
      exact ⟨rfl,HEnd.out⟩
   ·
    have x2:decide (m < en) = false:=decide_eq_false e2
    have HRow2:Hid (SR W g (P ++ (A1 ++ (B1 ++ (A2 ++ (B2 ++ Q))))) wr):=Lib.hid (by
     have:B1 = []:=List.eq_nil_of_length_eq_zero (by have:=HLn.out.2.2.1;omega)
     have h:=HRow.out.1
     rw [this] at h ⊢
     exact h)
    clear HRow
    by_cases e3:a < i
    ·
     have x3:decide (a < i) = true:=decide_eq_true e3
     by_cases e4:i < mid
     ·
      have x4:decide (i < mid) = true:=decide_eq_true e4
      have HC:=Lib.hid (IH.out P A1 B1 (A2 ++ (B2 ++ Q)) a i mid wr (by have h1:=HLn.out.1;have h2:=HLn.out.2.2.1;have h3:=HA.out;omega) (by have:=HLn.out.1;omega) (by have:=HLn.out.2.2.1;omega) (by have:=HTot.out;simp only [List.length_append];omega) HA.out.1 (by have:=HLn.out.1;omega) (by have h2:=HLn.out.2.2.1;omega) HSt.out.1 HSt.out.2.2.1 HSm2.out.1 HRow2.out)
      go_wp2_with fail
      refine HC.out.mono ?_
      rintro e w8 ⟨rfl,R1,hp1,hs1,hS2⟩
      have HR1:=Lib.hid (show R1.Perm (A1 ++ B1)∧Sorted' R1∧SR W g (P ++ (R1 ++ (A2 ++ (B2 ++ Q)))) w8 from ⟨hp1,hs1,hS2⟩)
      clear hp1 hs1 hS2 HRow2 HC
      have HL1:Hid (R1.length = mid - a):=Lib.hid (by rw [HR1.out.1.length_eq,List.length_append,HLn.out.1,HLn.out.2.2.1];omega)
      by_cases e5:mid < en
      ·
       have x5:decide (mid < en) = true:=decide_eq_true e5
       by_cases e6:en < b
       ·
        have x6:decide (en < b) = true:=decide_eq_true e6
        have HC:=Lib.hid (IH.out (P ++ R1) A2 B2 Q mid en b w8 (by have h1:=HLn.out.2.1;have h2:=HLn.out.2.2.2;have h3:=HA.out;omega) (by have:=HLn.out.2.1;omega) (by have:=HLn.out.2.2.2;omega) (by have h0:=HTot.out;have h1:=HL1.out;have h2:=HLn.out;simp only [List.length_append];omega) (by have h1:=HL1.out;have h2:=HA.out.1;rw [List.length_append];omega) (by have:=HLn.out.2.1;omega) (by have h2:=HLn.out.2.2.2;omega) HSt.out.2.1 HSt.out.2.2.2 HSm2.out.2 (by rw [List.append_assoc];exact HR1.out.2.2))
        go_wp2_with fail
        refine HC.out.mono ?_
        rintro e w9 ⟨rfl,R2,hp2,hs2,hS2⟩
        have HEnd:Hid (∃ R,R.Perm (A ++ B)∧Sorted' R∧SR W g (P ++ (R ++ Q)) w9):=Lib.hid ⟨R1 ++ R2,(HHalf.out R1 R2 HR1.out.1 hp2 HR1.out.2.1 hs2).1,(HHalf.out R1 R2 HR1.out.1 hp2 HR1.out.2.1 hs2).2,by simpa [List.append_assoc] using hS2⟩
        clear hp2 hs2 hS2
        go_wp2
        go_end0
        exact ⟨rfl,HEnd.out⟩
       ·
        have x6:decide (en < b) = false:=decide_eq_false e6
        have HEnd:Hid (∃ R,R.Perm (A ++ B)∧Sorted' R∧SR W g (P ++ (R ++ Q)) w8):=Lib.hid (by
         have h0:B2 = []:=List.eq_nil_of_length_eq_zero (by have:=HLn.out.2.2.2;omega)
         have h:=HHalf.out R1 A2 HR1.out.1 (by rw [h0,List.append_nil]) HR1.out.2.1 HSt.out.2.1
         have h2:=HR1.out.2.2
         rw [h0] at h2
         exact ⟨_,h.1,h.2,by simpa [List.append_assoc] using h2⟩)
        go_wp2
        go_end0
        exact ⟨rfl,HEnd.out⟩
      ·
       have x5:decide (mid < en) = false:=decide_eq_false e5
       have HEnd:Hid (∃ R,R.Perm (A ++ B)∧Sorted' R∧SR W g (P ++ (R ++ Q)) w8):=Lib.hid (by
        have h0:A2 = []:=List.eq_nil_of_length_eq_zero (by have:=HLn.out.2.1;omega)
        have h:=HHalf.out R1 B2 HR1.out.1 (by rw [h0,List.nil_append]) HR1.out.2.1 HSt.out.2.2.2
        have h2:=HR1.out.2.2
        rw [h0] at h2
        exact ⟨_,h.1,h.2,by simpa [List.append_assoc] using h2⟩)
       go_wp2
       go_end0
       exact ⟨rfl,HEnd.out⟩
     ·
      have x4:decide (i < mid) = false:=decide_eq_false e4
      have HR1:Hid (A1.Perm (A1 ++ B1)∧Sorted' A1∧SR W g (P ++ (A1 ++ (A2 ++ (B2 ++ Q)))) wr):=Lib.hid (by
       have:B1 = []:=List.eq_nil_of_length_eq_zero (by have:=HLn.out.2.2.1;omega)
       have h:=HRow2.out
       rw [this] at h ⊢
       exact ⟨by rw [List.append_nil],HSt.out.1,h⟩)
      clear HRow2
      obtain ⟨R1,hR1⟩:∃ R1,R1 = A1:=⟨_,rfl⟩
      have HR1:Hid (R1.Perm (A1 ++ B1)∧Sorted' R1∧SR W g (P ++ (R1 ++ (A2 ++ (B2 ++ Q)))) wr):=Lib.hid (by rw [hR1];exact HR1.out)
      clear hR1
      have HL1:Hid (R1.length = mid - a):=Lib.hid (by rw [HR1.out.1.length_eq,List.length_append,HLn.out.1,HLn.out.2.2.1];omega)
      by_cases e5:mid < en
      ·
       have x5:decide (mid < en) = true:=decide_eq_true e5
       by_cases e6:en < b
       ·
        have x6:decide (en < b) = true:=decide_eq_true e6
        have HC:=Lib.hid (IH.out (P ++ R1) A2 B2 Q mid en b wr (by have h1:=HLn.out.2.1;have h2:=HLn.out.2.2.2;have h3:=HA.out;omega) (by have:=HLn.out.2.1;omega) (by have:=HLn.out.2.2.2;omega) (by have h0:=HTot.out;have h1:=HL1.out;have h2:=HLn.out;simp only [List.length_append];omega) (by have h1:=HL1.out;have h2:=HA.out.1;rw [List.length_append];omega) (by have:=HLn.out.2.1;omega) (by have h2:=HLn.out.2.2.2;omega) HSt.out.2.1 HSt.out.2.2.2 HSm2.out.2 (by rw [List.append_assoc];exact HR1.out.2.2))
        go_wp2_with fail
        refine HC.out.mono ?_
        rintro e w9 ⟨rfl,R2,hp2,hs2,hS2⟩
        have HEnd:Hid (∃ R,R.Perm (A ++ B)∧Sorted' R∧SR W g (P ++ (R ++ Q)) w9):=Lib.hid ⟨R1 ++ R2,(HHalf.out R1 R2 HR1.out.1 hp2 HR1.out.2.1 hs2).1,(HHalf.out R1 R2 HR1.out.1 hp2 HR1.out.2.1 hs2).2,by simpa [List.append_assoc] using hS2⟩
        clear hp2 hs2 hS2
        go_wp2
        go_end0
        exact ⟨rfl,HEnd.out⟩
       ·
        have x6:decide (en < b) = false:=decide_eq_false e6
        have HEnd:Hid (∃ R,R.Perm (A ++ B)∧Sorted' R∧SR W g (P ++ (R ++ Q)) wr):=Lib.hid (by
         have h0:B2 = []:=List.eq_nil_of_length_eq_zero (by have:=HLn.out.2.2.2;omega)
         have h:=HHalf.out R1 A2 HR1.out.1 (by rw [h0,List.append_nil]) HR1.out.2.1 HSt.out.2.1
         have h2:=HR1.out.2.2
         rw [h0] at h2
         exact ⟨_,h.1,h.2,by simpa [List.append_assoc] using h2⟩)
        go_wp2
        go_end0
        exact ⟨rfl,HEnd.out⟩
      ·
       have x5:decide (mid < en) = false:=decide_eq_false e5
       have HEnd:Hid (∃ R,R.Perm (A ++ B)∧Sorted' R∧SR W g (P ++ (R ++ Q)) wr):=Lib.hid (by
        have h0:A2 = []:=List.eq_nil_of_length_eq_zero (by have:=HLn.out.2.1;omega)
        have h:=HHalf.out R1 B2 HR1.out.1 (by rw [h0,List.nil_append]) HR1.out.2.1 HSt.out.2.2.2
        have h2:=HR1.out.2.2
        rw [h0] at h2
        exact ⟨_,h.1,h.2,by simpa [List.append_assoc] using h2⟩)
       go_wp2
       go_end0
       exact ⟨rfl,HEnd.out⟩
    ·
     have x3:decide (a < i) = false:=decide_eq_false e3
     have HR1:Hid (B1.Perm (A1 ++ B1)∧Sorted' B1∧SR W g (P ++ (B1 ++ (A2 ++ (B2 ++ Q)))) wr):=Lib.hid (by
      have:A1 = []:=List.eq_nil_of_length_eq_zero (by have:=HLn.out.1;omega)
      have h:=HRow2.out
      rw [this] at h ⊢
      exact ⟨List.Perm.refl _,HSt.out.2.2.1,h⟩)
     clear HRow2
     obtain ⟨R1,hR1⟩:∃ R1,R1 = B1:=⟨_,rfl⟩
     have HR1:Hid (R1.Perm (A1 ++ B1)∧Sorted' R1∧SR W g (P ++ (R1 ++ (A2 ++ (B2 ++ Q)))) wr):=Lib.hid (by rw [hR1];exact HR1.out)
     clear hR1
     have HL1:Hid (R1.length = mid - a):=Lib.hid (by rw [HR1.out.1.length_eq,List.length_append,HLn.out.1,HLn.out.2.2.1];omega)
     by_cases e5:mid < en
     ·
      have x5:decide (mid < en) = true:=decide_eq_true e5
      by_cases e6:en < b
      ·
       have x6:decide (en < b) = true:=decide_eq_true e6
       have HC:=Lib.hid (IH.out (P ++ R1) A2 B2 Q mid en b wr (by have h1:=HLn.out.2.1;have h2:=HLn.out.2.2.2;have h3:=HA.out;omega) (by have:=HLn.out.2.1;omega) (by have:=HLn.out.2.2.2;omega) (by have h0:=HTot.out;have h1:=HL1.out;have h2:=HLn.out;simp only [List.length_append];omega) (by have h1:=HL1.out;have h2:=HA.out.1;rw [List.length_append];omega) (by have:=HLn.out.2.1;omega) (by have h2:=HLn.out.2.2.2;omega) HSt.out.2.1 HSt.out.2.2.2 HSm2.out.2 (by rw [List.append_assoc];exact HR1.out.2.2))
       go_wp2_with fail
       refine HC.out.mono ?_
       rintro e w9 ⟨rfl,R2,hp2,hs2,hS2⟩
       have HEnd:Hid (∃ R,R.Perm (A ++ B)∧Sorted' R∧SR W g (P ++ (R ++ Q)) w9):=Lib.hid ⟨R1 ++ R2,(HHalf.out R1 R2 HR1.out.1 hp2 HR1.out.2.1 hs2).1,(HHalf.out R1 R2 HR1.out.1 hp2 HR1.out.2.1 hs2).2,by simpa [List.append_assoc] using hS2⟩
       clear hp2 hs2 hS2
       go_wp2
       go_end0
       exact ⟨rfl,HEnd.out⟩
      ·
       have x6:decide (en < b) = false:=decide_eq_false e6
       have HEnd:Hid (∃ R,R.Perm (A ++ B)∧Sorted' R∧SR W g (P ++ (R ++ Q)) wr):=Lib.hid (by
        have h0:B2 = []:=List.eq_nil_of_length_eq_zero (by have:=HLn.out.2.2.2;omega)
        have h:=HHalf.out R1 A2 HR1.out.1 (by rw [h0,List.append_nil]) HR1.out.2.1 HSt.out.2.1
        have h2:=HR1.out.2.2
        rw [h0] at h2
        exact ⟨_,h.1,h.2,by simpa [List.append_assoc] using h2⟩)
       go_wp2
       go_end0
       exact ⟨rfl,HEnd.out⟩
     ·
      have x5:decide (mid < en) = false:=decide_eq_false e5
      have HEnd:Hid (∃ R,R.Perm (A ++ B)∧Sorted' R∧SR W g (P ++ (R ++ Q)) wr):=Lib.hid (by
       have h0:A2 = []:=List.eq_nil_of_length_eq_zero (by have:=HLn.out.2.1;omega)
       have h:=HHalf.out R1 B2 HR1.out.1 (by rw [h0,List.nil_append]) HR1.out.2.1 HSt.out.2.2.2
       have h2:=HR1.out.2.2
       rw [h0] at h2
       exact ⟨_,h.1,h.2,by simpa [List.append_assoc] using h2⟩)
      go_wp2
      go_end0
      exact ⟨rfl,HEnd.out⟩
  ·
   have x1:decide (i < m) = false:=decide_eq_false e1
   have HRow2:Hid (SR W g (P ++ (A1 ++ (B1 ++ (A2 ++ (B2 ++ Q))))) wr):=Lib.hid (by
    have:A2 = []:=List.eq_nil_of_length_eq_zero (by have:=HLn.out.2.1;omega)
    have h:=HRow.out.1
    rw [this] at h ⊢
    exact h)
   clear HRow
   by_cases e3:a < i
   ·
    have x3:decide (a < i) = true:=decide_eq_true e3
    by_cases e4:i < mid
    ·
     have x4:decide (i < mid) = true:=decide_eq_true e4
     have HC:=Lib.hid (IH.out P A1 B1 (A2 ++ (B2 ++ Q)) a i mid wr (by have h1:=HLn.out.1;have h2:=HLn.out.2.2.1;have h3:=HA.out;omega) (by have:=HLn.out.1;omega) (by have:=HLn.out.2.2.1;omega) (by have:=HTot.out;simp only [List.length_append];omega) HA.out.1 (by have:=HLn.out.1;omega) (by have h2:=HLn.out.2.2.1;omega) HSt.out.1 HSt.out.2.2.1 HSm2.out.1 HRow2.out)
     go_wp2_with fail
     refine HC.out.mono ?_
     rintro e w8 ⟨rfl,R1,hp1,hs1,hS2⟩
     have HR1:=Lib.hid (show R1.Perm (A1 ++ B1)∧Sorted' R1∧SR W g (P ++ (R1 ++ (A2 ++ (B2 ++ Q)))) w8 from ⟨hp1,hs1,hS2⟩)
     clear hp1 hs1 hS2 HRow2 HC
     have HL1:Hid (R1.length = mid - a):=Lib.hid (by rw [HR1.out.1.length_eq,List.length_append,HLn.out.1,HLn.out.2.2.1];omega)
     by_cases e5:mid < en
     ·
      have x5:decide (mid < en) = true:=decide_eq_true e5
      by_cases e6:en < b
      ·
       have x6:decide (en < b) = true:=decide_eq_true e6
       have HC:=Lib.hid (IH.out (P ++ R1) A2 B2 Q mid en b w8 (by have h1:=HLn.out.2.1;have h2:=HLn.out.2.2.2;have h3:=HA.out;omega) (by have:=HLn.out.2.1;omega) (by have:=HLn.out.2.2.2;omega) (by have h0:=HTot.out;have h1:=HL1.out;have h2:=HLn.out;simp only [List.length_append];omega) (by have h1:=HL1.out;have h2:=HA.out.1;rw [List.length_append];omega) (by have:=HLn.out.2.1;omega) (by have h2:=HLn.out.2.2.2;omega) HSt.out.2.1 HSt.out.2.2.2 HSm2.out.2 (by rw [List.append_assoc];exact HR1.out.2.2))
       go_wp2_with fail
       refine HC.out.mono ?_
       rintro e w9 ⟨rfl,R2,hp2,hs2,hS2⟩
       have HEnd:Hid (∃ R,R.Perm (A ++ B)∧Sorted' R∧SR W g (P ++ (R ++ Q)) w9):=Lib.hid ⟨R1 ++ R2,(HHalf.out R1 R2 HR1.out.1 hp2 HR1.out.2.1 hs2).1,(HHalf.out R1 R2 HR1.out.1 hp2 HR1.out.2.1 hs2).2,by simpa [List.append_assoc] using hS2⟩
       clear hp2 hs2 hS2
       go_wp2
       go_end0
       exact ⟨rfl,HEnd.out⟩
      ·
       have x6:decide (en < b) = false:=decide_eq_false e6
       have HEnd:Hid (∃ R,R.Perm (A ++ B)∧Sorted' R∧SR W g (P ++ (R ++ Q)) w8):=Lib.hid (by
        have h0:B2 = []:=List.eq_nil_of_length_eq_zero (by have:=HLn.out.2.2.2;omega)
        have h:=HHalf.out R1 A2 HR1.out.1 (by rw [h0,List.append_nil]) HR1.out.2.1 HSt.out.2.1
        have h2:=HR1.out.2.2
        rw [h0] at h2
        exact ⟨_,h.1,h.2,by simpa [List.append_assoc] using h2⟩)
       go_wp2
       go_end0
       exact ⟨rfl,HEnd.out⟩
     ·
      have x5:decide (mid < en) = false:=decide_eq_false e5
      have HEnd:Hid (∃ R,R.Perm (A ++ B)∧Sorted' R∧SR W g (P ++ (R ++ Q)) w8):=Lib.hid (by
       have h0:A2 = []:=List.eq_nil_of_length_eq_zero (by have:=HLn.out.2.1;omega)
       have h:=HHalf.out R1 B2 HR1.out.1 (by rw [h0,List.nil_append]) HR1.out.2.1 HSt.out.2.2.2
       have h2:=HR1.out.2.2
       rw [h0] at h2
       exact ⟨_,h.1,h.2,by simpa [List.append_assoc] using h2⟩)
      go_wp2
      go_end0
      exact ⟨rfl,HEnd.out⟩
    ·
     have x4:decide (i < mid) = false:=decide_eq_false e4
     have HR1:Hid (A1.Perm (A1 ++ B1)∧Sorted' A1∧SR W g (P ++ (A1 ++ (A2 ++ (B2 ++ Q)))) wr):=Lib.hid (by
      have:B1 = []:=List.eq_nil_of_length_eq_zero (by have:=HLn.out.2.2.1;omega)
      have h:=HRow2.out
      rw [this] at h ⊢
      exact ⟨by rw [List.append_nil],HSt.out.1,h⟩)
     clear HRow2
     obtain ⟨R1,hR1⟩:∃ R1,R1 = A1:=⟨_,rfl⟩
     have HR1:Hid (R1.Perm (A1 ++ B1)∧Sorted' R1∧SR W g (P ++ (R1 ++ (A2 ++ (B2 ++ Q)))) wr):=Lib.hid (by rw [hR1];exact HR1.out)
     clear hR1
     have HL1:Hid (R1.length = mid - a):=Lib.hid (by rw [HR1.out.1.length_eq,List.length_append,HLn.out.1,HLn.out.2.2.1];omega)
     by_cases e5:mid < en
     ·
      have x5:decide (mid < en) = true:=decide_eq_true e5
      by_cases e6:en < b
      ·
       have x6:decide (en < b) = true:=decide_eq_true e6
       have HC:=Lib.hid (IH.out (P ++ R1) A2 B2 Q mid en b wr (by have h1:=HLn.out.2.1;have h2:=HLn.out.2.2.2;have h3:=HA.out;omega) (by have:=HLn.out.2.1;omega) (by have:=HLn.out.2.2.2;omega) (by have h0:=HTot.out;have h1:=HL1.out;have h2:=HLn.out;simp only [List.length_append];omega) (by have h1:=HL1.out;have h2:=HA.out.1;rw [List.length_append];omega) (by have:=HLn.out.2.1;omega) (by have h2:=HLn.out.2.2.2;omega) HSt.out.2.1 HSt.out.2.2.2 HSm2.out.2 (by rw [List.append_assoc];exact HR1.out.2.2))
       go_wp2_with fail
       refine HC.out.mono ?_
       rintro e w9 ⟨rfl,R2,hp2,hs2,hS2⟩
       have HEnd:Hid (∃ R,R.Perm (A ++ B)∧Sorted' R∧SR W g (P ++ (R ++ Q)) w9):=Lib.hid ⟨R1 ++ R2,(HHalf.out R1 R2 HR1.out.1 hp2 HR1.out.2.1 hs2).1,(HHalf.out R1 R2 HR1.out.1 hp2 HR1.out.2.1 hs2).2,by simpa [List.append_assoc] using hS2⟩
       clear hp2 hs2 hS2
       go_wp2
       go_end0
       exact ⟨rfl,HEnd.out⟩
      ·
       have x6:decide (en < b) = false:=decide_eq_false e6
       have HEnd:Hid (∃ R,R.Perm (A ++ B)∧Sorted' R∧SR W g (P ++ (R ++ Q)) wr):=Lib.hid (by
        have h0:B2 = []:=List.eq_nil_of_length_eq_zero (by have:=HLn.out.2.2.2;omega)
        have h:=HHalf.out R1 A2 HR1.out.1 (by rw [h0,List.append_nil]) HR1.out.2.1 HSt.out.2.1
        have h2:=HR1.out.2.2
        rw [h0] at h2
        exact ⟨_,h.1,h.2,by simpa [List.append_assoc] using h2⟩)
       go_wp2
       go_end0
       exact ⟨rfl,HEnd.out⟩
     ·
      have x5:decide (mid < en) = false:=decide_eq_false e5
      have HEnd:Hid (∃ R,R.Perm (A ++ B)∧Sorted' R∧SR W g (P ++ (R ++ Q)) wr):=Lib.hid (by
       have h0:A2 = []:=List.eq_nil_of_length_eq_zero (by have:=HLn.out.2.1;omega)
       have h:=HHalf.out R1 B2 HR1.out.1 (by rw [h0,List.nil_append]) HR1.out.2.1 HSt.out.2.2.2
       have h2:=HR1.out.2.2
       rw [h0] at h2
       exact ⟨_,h.1,h.2,by simpa [List.append_assoc] using h2⟩)
      go_wp2
      go_end0
      exact ⟨rfl,HEnd.out⟩
   ·
    have x3:decide (a < i) = false:=decide_eq_false e3
    have HR1:Hid (B1.Perm (A1 ++ B1)∧Sorted' B1∧SR W g (P ++ (B1 ++ (A2 ++ (B2 ++ Q)))) wr):=Lib.hid (by
     have:A1 = []:=List.eq_nil_of_length_eq_zero (by have:=HLn.out.1;omega)
     have h:=HRow2.out
     rw [this] at h ⊢
     exact ⟨List.Perm.refl _,HSt.out.2.2.1,h⟩)
    clear HRow2
    obtain ⟨R1,hR1⟩:∃ R1,R1 = B1:=⟨_,rfl⟩
    have HR1:Hid (R1.Perm (A1 ++ B1)∧Sorted' R1∧SR W g (P ++ (R1 ++ (A2 ++ (B2 ++ Q)))) wr):=Lib.hid (by rw [hR1];exact HR1.out)
    clear hR1
    have HL1:Hid (R1.length = mid - a):=Lib.hid (by rw [HR1.out.1.length_eq,List.length_append,HLn.out.1,HLn.out.2.2.1];omega)
    by_cases e5:mid < en
    ·
     have x5:decide (mid < en) = true:=decide_eq_true e5
     by_cases e6:en < b
     ·
      have x6:decide (en < b) = true:=decide_eq_true e6
      have HC:=Lib.hid (IH.out (P ++ R1) A2 B2 Q mid en b wr (by have h1:=HLn.out.2.1;have h2:=HLn.out.2.2.2;have h3:=HA.out;omega) (by have:=HLn.out.2.1;omega) (by have:=HLn.out.2.2.2;omega) (by have h0:=HTot.out;have h1:=HL1.out;have h2:=HLn.out;simp only [List.length_append];omega) (by have h1:=HL1.out;have h2:=HA.out.1;rw [List.length_append];omega) (by have:=HLn.out.2.1;omega) (by have h2:=HLn.out.2.2.2;omega) HSt.out.2.1 HSt.out.2.2.2 HSm2.out.2 (by rw [List.append_assoc];exact HR1.out.2.2))
      go_wp2_with fail
      refine HC.out.mono ?_
      rintro e w9 ⟨rfl,R2,hp2,hs2,hS2⟩
      have HEnd:Hid (∃ R,R.Perm (A ++ B)∧Sorted' R∧SR W g (P ++ (R ++ Q)) w9):=Lib.hid ⟨R1 ++ R2,(HHalf.out R1 R2 HR1.out.1 hp2 HR1.out.2.1 hs2).1,(HHalf.out R1 R2 HR1.out.1 hp2 HR1.out.2.1 hs2).2,by simpa [List.append_assoc] using hS2⟩
      clear hp2 hs2 hS2
      go_wp2
      go_end0
      exact ⟨rfl,HEnd.out⟩
     ·
      have x6:decide (en < b) = false:=decide_eq_false e6
      have HEnd:Hid (∃ R,R.Perm (A ++ B)∧Sorted' R∧SR W g (P ++ (R ++ Q)) wr):=Lib.hid (by
       have h0:B2 = []:=List.eq_nil_of_length_eq_zero (by have:=HLn.out.2.2.2;omega)
       have h:=HHalf.out R1 A2 HR1.out.1 (by rw [h0,List.append_nil]) HR1.out.2.1 HSt.out.2.1
       have h2:=HR1.out.2.2
       rw [h0] at h2
       exact ⟨_,h.1,h.2,by simpa [List.append_assoc] using h2⟩)
      go_wp2
      go_end0
      exact ⟨rfl,HEnd.out⟩
    ·
     have x5:decide (mid < en) = false:=decide_eq_false e5
     have HEnd:Hid (∃ R,R.Perm (A ++ B)∧Sorted' R∧SR W g (P ++ (R ++ Q)) wr):=Lib.hid (by
      have h0:A2 = []:=List.eq_nil_of_length_eq_zero (by have:=HLn.out.2.1;omega)
      have h:=HHalf.out R1 B2 HR1.out.1 (by rw [h0,List.nil_append]) HR1.out.2.1 HSt.out.2.2.2
      have h2:=HR1.out.2.2
      rw [h0] at h2
      exact ⟨_,h.1,h.2,by simpa [List.append_assoc] using h2⟩)
     go_wp2
     go_end0
     exact ⟨rfl,HEnd.out⟩
end Go.Proofs.YtnplommdgfgboaaGreatDoor.SortW
