/-
  Texts of the claim, one behind the other: ChunkW, TripA, TripK, TermEnd, RefTerm, RefTerms, RefTrip, TripC, TripP, DictW, ShownW, TripW, BoxUnX, SecTwo, NewBad, BytesEq, FrontRd, UnpW.
-/
import Derived.Test.YtnplommdgfgboaaGreatDoorK9
import Derived.RangeFuncNested
import Derived.RangeFuncBound
import Derived.RangeFuncCalls
import Derived.RangeFuncLeaves
import Derived.RangeFuncBox
import Derived.Shelf.Abstract
import Derived.Shelf.RegionOpen
import Derived.WalkKit
import Derived.OwnWalkIn
import Derived.TacticsInMore
import Derived.LoopNIn
import Derived.LoopIn
import Derived.Test.YtnplommdgfgboaaGreatDoorProg
import Derived.Lib.EndianBits
set_option linter.unusedVariables false
set_option linter.unusedSimpArgs false
set_option maxHeartbeats 25600000
set_option maxRecDepth 100000
namespace Go.Proofs.YtnplommdgfgboaaGreatDoor
namespace ChunkW
open Go.RowKit Go.Shelf
attribute [local go_sem] Oper.semAt_some
def upto (N k:Nat):List (Fin N):=(List.finRange N).take k
theorem upto_length {N k:Nat} (h:k ≤ N):(upto N k).length = k:=by simp [upto];omega
theorem upto_succ {N k:Nat} (h:k < N):upto N (k + 1) = upto N k ++ [⟨k,h⟩]:=by
 unfold upto
 have hl:k < (List.finRange N).length:=by simpa using h
 rw [List.take_add_one,List.getElem?_eq_getElem hl]
 simp
theorem upto_all (N:Nat):upto N N = List.finRange N:=by
 unfold upto
 exact List.take_of_length_le (by simp)
def Kept (n₀ Bs Bn:Nat) (W W':World):Prop:=Below n₀ W W'∧W'.heap[Bs]? = W.heap[Bs]?∧W'.heap[Bn]? = W.heap[Bn]?
theorem Kept.refl (n₀ Bs Bn:Nat) (W:World):Kept n₀ Bs Bn W W:=⟨bR _ _,rfl,rfl⟩
theorem Kept.trans {n₀ Bs Bn:Nat} {A B C:World} (h:Kept n₀ Bs Bn A B) (k:Kept n₀ Bs Bn B C):Kept n₀ Bs Bn A C:=⟨h.1.trans k.1,k.2.1.trans h.2.1,k.2.2.trans h.2.2⟩
theorem Kept.cell_s {n₀ Bs Bn:Nat} {W W':World} (h:Kept n₀ Bs Bn W W'):W'.cell? ⟨Bs,0,none⟩ = W.cell? ⟨Bs,0,none⟩:=World.cell?_of_block h.2.1
theorem Kept.cell_n {n₀ Bs Bn:Nat} {W W':World} (h:Kept n₀ Bs Bn W W'):W'.cell? ⟨Bn,0,none⟩ = W.cell? ⟨Bn,0,none⟩:=World.cell?_of_block h.2.2
def part (b off k:Nat):Value:=.slice (some ⟨b,off + 3 * k,none⟩) 3 3
theorem info_int:(Tryz.prog.info? 3).map (fun i=>(i.zero,i.size,i.bytes)) = some (some (.int .i64 0),1,8):=by kernel_rfl
theorem part_run (b off M cap m m3:Nat) (h3:m3 = m + 3) (h:m3 ≤ cap) (w:World):(Instr.slice 74 (.slice (some ⟨b,off,none⟩) M cap) (some (.int .i64 (m:Int))) (some (.int .i64 (m3:Int))) (some (.int .i64 (m3:Int)))).run Tryz.prog w = .ok (.slice (some ⟨b,off + m,none⟩) 3 3) w:=by
 obtain ⟨i,hi',_,hz1,_⟩:=info_parts info_int
 have hel:Tryz.prog.elem 74 = 3:=by simp [Program.elem,Tryz.underlying74]
 have hu:Tryz.prog.underlying 74 = some (.slice (Tryz.prog.elem 74)):=by rw [hel];exact Tryz.underlying74
 rw [run_slice_lhm w 74 _ M cap hu .i64 .i64 .i64 (m:Int) (m3:Int) (m3:Int) (by omega) (by omega) (by omega) (by omega),hel]
 have h1:m3 - m = 3:=by omega
 have h2:¬ m3 = m:=by omega
 simp [sizeOf,typeInfo,hi',hz1,sliced,Result.andThen,Addr.add,h1,h2]
theorem rest_run (A:Option Addr) (M cap m:Nat) (h:m ≤ M):∃ A',∀ w,(Instr.slice 74 (.slice A M cap) (some (.int .i64 (m:Int))) none none).run Tryz.prog w = .ok (.slice A' (M - m) (cap - m)) w:=by
 obtain ⟨i,hi',_,hz1,_⟩:=info_parts info_int
 have hel:Tryz.prog.elem 74 = 3:=by simp [Program.elem,Tryz.underlying74]
 have hu:Tryz.prog.underlying 74 = some (.slice (Tryz.prog.elem 74)):=by rw [hel];exact Tryz.underlying74
 refine ⟨if cap = m then A else A.map (·.add m),fun w=>?_⟩
 rw [run_slice_l w 74 A M cap hu .i64 (m:Int) (by omega) (by omega),hel]
 simp [sizeOf,typeInfo,hi',hz1,sliced,Result.andThen]
theorem chunk_calls (A:Option Addr) (len cap:Nat) (w:World):Calls Tryz.prog 112 #[.slice A len cap,.int .i64 3] w fun e w'=>e = .returned (.func (.func 149) #[] #[.pointer (some ⟨w.heap.size,0,none⟩),.pointer (some ⟨w.heap.size + 1,0,none⟩)])∧w' = (w.alloc (.cells #[.slice A len cap] 74)).alloc (.cells #[.int .i64 3] 3):=by
 go_enter Tryz.func112,Tryz.ntmps112
 go_wp2
 go_ret
 exact ⟨rfl,rfl⟩
theorem chunk1_in (n:Nat) (hn:1 ≤ n) (l Bs Bn n₀ b off N M cap:Nat) (A:Option Addr) (hA:0 < N → A = some ⟨b,off,none⟩) (hM1:M ≤ 3 * N) (hM2:3 * N ≤ M) (hN:N ≤ 1000) (hlc:M ≤ cap) (hcap:cap ≤ maxLen) (J Jx:List (Fin N) → World → Prop) (hJd:∀ s W q,J s W → J s (World.drewN W q))
  (hY:∀ pre x W,J pre W → pre.length < N → YieldAt Fence.wide (n - 1) Tryz.prog l #[part b off x.1] W fun e W' =>
   (e = .returned (.bool true)∧J (pre ++ [x]) W'∧Kept n₀ Bs Bn W W') ∨ (e = .returned (.bool false)∧Jx (pre ++ [x]) W'))
  (W:World) (hBs:W.cell? ⟨Bs,0,none⟩ = some (.slice A M cap)) (hBn:W.cell? ⟨Bn,0,none⟩ = some (.int .i64 3)) (h0:J [] W) :
  CallsIn Fence.wide n Tryz.prog 149 #[.func (.yield l) #[] #[],.pointer (some ⟨Bs,0,none⟩),.pointer (some ⟨Bn,0,none⟩)] W fun e W'=>(∃ v,e = .returned v) ∧
   ((∃ ys,ys = List.finRange N∧J ys W') ∨ (∃ pre,pre <+: List.finRange N∧Jx pre W')):=by
 refine callsIn_of_wp Tryz.func149 rfl trivial ?_ rfl
 simp only [Tryz.ntmps149,List.size_toArray,List.length_cons,List.length_nil,Nat.reduceAdd,Nat.reduceSub,Array.replicate_succ,Array.replicate_zero,List.push_toArray,List.append_toArray,List.nil_append,List.cons_append]
 gi_wp2
 gi_loopw [4] (fun i wr=>∃ k m:Nat,k ≤ N∧i = .int .i64 m∧m ≤ 3 * k∧3 * k ≤ m∧J (upto N k) wr∧Kept n₀ Bs Bn W wr)
  (fun i _=>3 * N - (intOf i).toNat)
 case atStart=>exact ⟨0,0,Nat.zero_le _,rfl,by omega,by omega,h0,Kept.refl _ _ _ _⟩
 case round =>
  obtain ⟨k,m,hk,rfl,hm1,hm2,hJs,hnx⟩:=hrel
  have hcs:=hnx.cell_s.trans hBs
  have hcn:=hnx.cell_n.trans hBn
  by_cases hlt:k < N
  ·
   have hAe:=hA (by omega)
   subst hAe
   have hd:decide ((m:Int) < (M:Int)) = true:=dT (by omega)
   obtain ⟨m3,hm3⟩:∃ m3,m3 = m + 3:=⟨_,rfl⟩
   have hr2:=fun w=>part_run b off M cap m m3 hm3 (by omega) w
   obtain ⟨A',hA'⟩:∃ A',∀ w,(Instr.slice 74 (.slice (some ⟨b,off,none⟩) M cap) (some (.int .i64 (m:Int))) none none).run Tryz.prog w = .ok (.slice A' (M - m) (cap - m)) w:=rest_run (some ⟨b,off,none⟩) M cap m (by omega)
   obtain ⟨d,hd2⟩:∃ d,d = M - m:=⟨_,rfl⟩
   rw [← hd2] at hA'
   have hmin:¬ ((d:Int) < 3):=by omega
   have hmin2:min (3:Int) ((M - m:Nat):Int) = 3:=by omega
   have hmin3:min (3:Int) (d:Int) = 3:=by omega
   have hw3:IntKind.i64.wrap ((m:Int) + 3) = (m3:Int):=by rw [IntKind.wrap_i64];omega
   have hpe:part b off k = .slice (some ⟨b,off + m,none⟩) 3 3:=by unfold part;rw [show 3 * k = m by omega]
   gi_wp2
   refine wpIn_wide.2 ?_
   go_quiet (fail)
   have hnx2:Kept n₀ Bs Bn W (wr.drewN nq):=⟨⟨hnx.1.os,hnx.1.tape,hnx.1.output,hnx.1.size,hnx.1.block⟩,hnx.2.1,hnx.2.2⟩
   have hcs2:(wr.drewN nq).cell? ⟨Bs,0,none⟩ = some (.slice (some ⟨b,off,none⟩) M cap):=hcs
   have hcn2:(wr.drewN nq).cell? ⟨Bn,0,none⟩ = some (.int .i64 3):=hcn
   have hJ2:=hJd _ _ nq hJs
   clear hnx hcs hcn hJs
   generalize wr.drewN nq = wz at *
   obtain ⟨fn,tmps,assign,body,hy,hR⟩:=hY _ ⟨k,hlt⟩ wz hJ2 (by rw [upto_length hk];exact hlt)
   dsimp only at hy
   rw [hpe] at hy
   gi_wp2
   refine hR.mono ?_
   rintro e W3 (⟨rfl,hJ3,hk3⟩ | ⟨rfl,hJx3⟩)
   ·
    have hcn3:W3.cell? ⟨Bn,0,none⟩ = some (.int .i64 3):=hk3.cell_n.trans hcn2
    have hcs3:W3.cell? ⟨Bs,0,none⟩ = some (.slice (some ⟨b,off,none⟩) M cap):=hk3.cell_s.trans hcs2
    gi_wp2
    go_roundw
    case rel=>exact ⟨k + 1,m3,by omega,by first | rfl | (congr 1;omega),by omega,by omega,by rw [upto_succ hlt];exact hJ3,hnx2.trans hk3⟩
    case measure=>simp [intOf];omega
   ·
    gi_wp2
    refine bodyPost_ret (results_none rfl _ _ _) rfl ?_
    exact ⟨⟨_,rfl⟩,.inr ⟨_,⟨(List.finRange N).drop (k + 1),by rw [← upto_succ hlt];exact List.take_append_drop _ _⟩,hJx3⟩⟩
  ·
   obtain rfl:k = N:=by omega
   have hd:decide ((m:Int) < (M:Int)) = false:=dF (by omega)
   gi_wp2
   go_end0
   exact ⟨⟨_,rfl⟩,.inl ⟨_,rfl,by rw [← upto_all];exact hJs⟩⟩
theorem chunk_stops (n:Nat) (hn:1 ≤ n) (Bs Bn n₀ b off N M cap:Nat) (A:Option Addr) (hA:0 < N → A = some ⟨b,off,none⟩) (hM1:M ≤ 3 * N) (hM2:3 * N ≤ M) (hN:N ≤ 1000) (hlc:M ≤ cap) (hcap:cap ≤ maxLen) (w:World) (hs:Bs < w.heap.size) (hb:Bn < w.heap.size)
  (hBs:w.cell? ⟨Bs,0,none⟩ = some (.slice A M cap)) (hBn:w.cell? ⟨Bn,0,none⟩ = some (.int .i64 3)) :
  SeqStopsK Fence.wide n Tryz.prog 149 #[.pointer (some ⟨Bs,0,none⟩),.pointer (some ⟨Bn,0,none⟩)] (fun x:Fin N=>#[part b off x.1]) (Kept n₀ Bs Bn) (fun ys=>ys = List.finRange N) (fun pre=>pre <+: List.finRange N) N w:=fun l J Jx W hW hJ _ hY h0=>by
 have h1:=(hW.cell (p:=⟨Bs,0,none⟩) hs).trans hBs
 have h2:=(hW.cell (p:=⟨Bn,0,none⟩) hb).trans hBn
 exact chunk1_in n hn l Bs Bn n₀ b off N M cap A hA hM1 hM2 hN hlc hcap J Jx (fun s W q hs'=>hJ s W (World.drewN W q) none hs' ⟨rfl,rfl,rfl,lR _,fun _ _ _=>rfl⟩ (fun r e=>by cases e)) hY W h1 h2 h0
end ChunkW
namespace TripW
open Go.RowKit Go.Lib Go.Shelf B Rd TermPure LinesPure Tri
attribute [local go_sem] Oper.semAt_some
theorem own_app1_in {α:Type} {F:Fence} {n:Nat} {P:Program} {W w0:World} {ops:Array Oper} {rest:List Oper} {o:Oper} {a:Act} {Q:Exit → Act → World → Prop}
  (d:Kd α) (base:Nat) (hgd:o.guard = none) (s x:Operand) (t e:TypeId) (z:Value) (bytes:Nat)
  (ho:o.op = .call { callee:=.builtin .append,args:=#[s,x],argTypes:=#[t,t] })
  (ht:P.underlying t = some (.slice e)) (hinfo:(P.info? e).map (fun i=>(i.zero,i.size,i.bytes)) = some (some z,d.sz,bytes)) (hz:z.cells.size = d.sz) (hb0:0 < bytes)
  (v:Value) (xs:List α) (y:α) (cs:List Value) (ok:Nat → Prop) (hs:a.eval s = v) (hx:a.eval x = .slice (some ⟨W.heap.size,0,none⟩) 1 1)
  (HO:d.own e W base ok v xs) (HM:d.M W (fun k=>ok k∧some k ≠ v.ownBlock) y cs)
  (HB:Below base w0 W) (hbase:base ≤ W.heap.size) (hl:(xs.length + 1) * bytes ≤ 140737488355328)
  (h:∀ v1 w1,d.own e w1 base ok v1 (xs ++ [y]) → Below base w0 w1 → W.grownBy w1 v.ownBlock → wpListIn F n P ops Q rest (a.put o.dst v1) w1) :
  wpListIn F n P ops Q (o :: rest) a (W.alloc (.cells cs.toArray e)):=by
 have hbel:Below W.heap.size W (W.alloc (.cells cs.toArray e)):=(bR _ _).alloc (lR _) _
 have hcl:=d.len HM
 have hh:(W.alloc (.cells cs.toArray e)).heap[W.heap.size]? = some (.cells cs.toArray e (0,0)):=by
  show (W.heap.push _)[W.heap.size]? = _
  simp
 obtain ⟨v1,w1,hr,h1,h2,h3,h4⟩:=Kd.own_run (P:=P) (w0:=w0) (W:=W.alloc (.cells cs.toArray e)) d base t o.type e z bytes ht hinfo hz v xs [y] (some ⟨W.heap.size,0,none⟩) 1 ok (Kd.own_alloc HO _)
  (fun i q hq=>by
   have:i = 0∧q = y:=by
    cases i with
    | zero=>simp at hq;exact ⟨rfl,hq.symm⟩
    | succ i=>simp at hq
   obtain ⟨rfl,rfl⟩:=this
   refine ⟨_,cs,rfl,Kd.M_below HM hbel,fun j u hu=>?_⟩
   rw [Nat.zero_mul,Nat.zero_add,add_plain]
   rw [World.cell?,hh]
   simpa using hu)
  (fun h=>by cases h) (HB.alloc hbase _) (by have:=hbel.size;omega) hl hb0
 refine wpListIn_plain hgd fun K hK=>?_
 have hr':(Builtin.append_ #[t,t] o.type #[v,.slice (some ⟨W.heap.size,0,none⟩) 1 1]).run P (W.alloc (.cells cs.toArray e)) = .ok v1 w1:=hr
 unfold Oper.wpIn
 refine ⟨?_,?_⟩
 ·
  simp [Oper.about,ho,resolve,Target.leads,Sem.run_pure]
 ·
  rw [Oper.semAt_plain F _ _ (by rw [ho];intro c hc';cases hc')]
  simp only [execOp,ho,resolve,invoke,builtin,Sem.run_bind,Sem.run_pure,Result.andThen_ok,List.map_toArray,List.map_cons,List.map_nil,hs,hx,hr']
  exact hK _ _ (h v1 w1 h1 h2 ⟨h3.os.trans hbel.os,h3.tape.trans hbel.tape,h3.output.trans hbel.output,Nat.le_trans hbel.size h3.size,fun k hk hne=>(h3.block k (by have:=hbel.size;omega) hne).trans (hbel.block k hk)⟩)
def FF:Nat → Prop:=fun _=>False
theorem own_kept {W W':World} {base:Nat} {v:Value} {T:List Triple} {row:Option Nat} (h:triK.own 36 W base FF v T) (hg:W.grownBy W' row) (hne:∀ k,v.ownBlock = some k → some k ≠ row):triK.own 36 W' base FF v T:=
 Kd.own_move (fun k hk hlt=>by
  rcases hk with hk | hk
  ·
   exact hk.elim
  ·
   exact hg.block k hlt (hne k hk)) h
theorem own_cells {W:World} {base:Nat} {v:Value} {T:List Triple} (h:triK.own 36 W base FF v T) {k:Nat} (hk:v.ownBlock = some k):base ≤ k∧∃ C,W.heap[k]? = some (.cells C 36 (0,0)):=by
 obtain ⟨_,cells,ho,_⟩:=h
 rcases ho.2 with ⟨rfl,_⟩ | ⟨g,cap,cur,rfl,hb,hh,_⟩
 ·
  simp [Value.ownBlock] at hk
 ·
  obtain rfl:g = k:=by simpa [Value.ownBlock] using hk
  exact ⟨hb,_,hh⟩
theorem box_ne {W:World} {B t:Nat} {u:Value} (hB:Boxed W B t u) (ht:t ≠ 36) {base:Nat} {v:Value} {T:List Triple} (h:triK.own 36 W base FF v T):some B ≠ v.ownBlock:=fun e=>by
 obtain ⟨_,C,hC⟩:=own_cells h e.symm
 have:=(show W.heap[B]? = _ from hB).symm.trans hC
 simp at this
 exact ht this.2
theorem box_not {W:World} {B t:Nat} {u:Value} (hB:Boxed W B t u) {row:Option Nat} (hr:∀ r,row = some r → ∃ o:Obj,W.heap[r]? = some o∧o.isCells = false):some B ≠ row:=fun e=>by
 obtain ⟨o,h1,h2⟩:=hr B e.symm
 rw [show W.heap[B]? = _ from hB] at h1
 cases h1
 cases h2
theorem own_not {W:World} {base:Nat} {v:Value} {T:List Triple} (h:triK.own 36 W base FF v T) {row:Option Nat} (hr:∀ r,row = some r → ∃ o:Obj,W.heap[r]? = some o∧o.isCells = false):∀ k,v.ownBlock = some k → some k ≠ row:=fun k hk e=>by
 obtain ⟨_,C,hC⟩:=own_cells h hk
 obtain ⟨o,h1,h2⟩:=hr k e.symm
 rw [hC] at h1
 cases h1
 cases h2
theorem keeps_below {W W':World} (h:Below W.heap.size W W'):KeepsOthers W W':=⟨h.size,fun b o hb _=>(h.block b (Array.getElem?_eq_some_iff.1 hb).1).trans hb⟩
theorem box_below {W W':World} {B t:Nat} {u:Value} (h:Boxed W B t u) (hb:Below W.heap.size W W'):Boxed W' B t u:=(hb.block B h.lt).trans h
theorem pushed {W w1:World} {n₀ Bl ty:Nat} {v v1:Value} {xs ys:List Triple} (hv:Boxed W Bl ty v) (hte:ty ≠ 36) (ho:triK.own 36 W n₀ FF v xs) (hB:n₀ ≤ Bl) (ho1:triK.own 36 w1 n₀ FF v1 ys) (hg:W.grownBy w1 v.ownBlock) (hb:Below n₀ W w1) :
  Boxed w1 Bl ty v∧Boxed (w1.setCell ⟨Bl,0,none⟩ v1) Bl ty v1∧triK.own 36 (w1.setCell ⟨Bl,0,none⟩ v1) n₀ FF v1 ys∧KeepsOthers W (w1.setCell ⟨Bl,0,none⟩ v1)∧Below n₀ W (w1.setCell ⟨Bl,0,none⟩ v1) ∧
   ∀ B t u,Boxed W B t u → t ≠ 36 → B ≠ Bl → Boxed (w1.setCell ⟨Bl,0,none⟩ v1) B t u:=by
 have hv1:Boxed w1 Bl ty v:=hv.kept hg (box_ne hv hte ho)
 refine ⟨hv1,hv1.set v1,own_kept ho1 (grownBy_setCell' w1 Bl v1) (fun k hk e=>?_),?_,hb.setCell (p:=⟨Bl,0,none⟩) hB v1,fun B t u hu ht hne=>?_⟩
 ·
  obtain rfl:k = Bl:=by simpa using e
  exact box_ne hv1 hte ho1 hk.symm
 ·
  refine (KeepsOthers.of_grownBy hg fun j o ej hj=>?_).trans (KeepsOthers.setCell _ _ _)
  obtain ⟨_,C,hC⟩:=own_cells ho ej
  rw [hC] at hj
  cases hj
  rfl
 ·
  exact (hu.kept hg (box_ne hu ht ho)).kept (grownBy_setCell' w1 Bl v1) (fun e=>hne (by simpa using e))
end TripW
namespace TripW
open Go.RowKit Go.Lib Go.Shelf B Rd TermPure LinesPure Tri ChunkW SortW
attribute [local go_sem] Oper.semAt_some
structure TI (s g:Nat) (sv:Value) (W:World) (v:Value) (T:List Triple):Prop where
 l:Boxed W (s + 1 + 1 + 1) 22 v
 own:triK.own 36 W s FF v T
 d:Boxed W s 106 (.pointer (some ⟨g,0,none⟩))
 r4:Boxed W (s + 1) 22 (.slice none 0 0)
 r5:Boxed W (s + 1 + 1) 4 (.bool false)
 bs:Boxed W (s + 1 + 1 + 1 + 1) 74 sv
 bn:Boxed W (s + 1 + 1 + 1 + 1 + 1) 3 (.int .i64 3)
theorem TI.kept {s g:Nat} {sv:Value} {W W':World} {v:Value} {T:List Triple} {row:Option Nat} (h:TI s g sv W v T) (hg:W.grownBy W' row) (hr:∀ r,row = some r → ∃ o:Obj,W.heap[r]? = some o∧o.isCells = false):TI s g sv W' v T:=
 ⟨h.l.kept hg (box_not h.l hr),own_kept h.own hg (own_not h.own hr),h.d.kept hg (box_not h.d hr),h.r4.kept hg (box_not h.r4 hr),h.r5.kept hg (box_not h.r5 hr),h.bs.kept hg (box_not h.bs hr),h.bn.kept hg (box_not h.bn hr)⟩
theorem TI.below {s g:Nat} {sv:Value} {W W':World} {v:Value} {T:List Triple} (h:TI s g sv W v T) (hb:Below W.heap.size W W'):TI s g sv W' v T:=
 ⟨box_below h.l hb,Kd.own_below h.own hb,box_below h.d hb,box_below h.r4 hb,box_below h.r5 hb,box_below h.bs hb,box_below h.bn hb⟩
theorem TI.new (g:Nat) (w:World) (v1:Value):TI w.heap.size g v1 ((((((w.alloc (.cells #[.pointer (some ⟨g,0,none⟩)] 106)).alloc (.cells #[.slice none 0 0] 22)).alloc (.cells #[.bool false] 4)).alloc (.cells #[.slice none 0 0] 22)).alloc (.cells #[v1] 74)).alloc (.cells #[.int .i64 3] 3)) (.slice none 0 0) []:=by
 have s1:(w.alloc (.cells #[.pointer (some ⟨g,0,none⟩)] 106)).heap.size = w.heap.size + 1:=by simp
 have s2:((w.alloc (.cells #[.pointer (some ⟨g,0,none⟩)] 106)).alloc (.cells #[.slice none 0 0] 22)).heap.size = w.heap.size + 1 + 1:=by simp
 have s3:(((w.alloc (.cells #[.pointer (some ⟨g,0,none⟩)] 106)).alloc (.cells #[.slice none 0 0] 22)).alloc (.cells #[.bool false] 4)).heap.size = w.heap.size + 1 + 1 + 1:=by simp
 have b0:=Boxed.new w 106 (.pointer (some ⟨g,0,none⟩))
 have b1:=Boxed.new (w.alloc (.cells #[.pointer (some ⟨g,0,none⟩)] 106)) 22 (.slice none 0 0)
 have b2:=Boxed.new ((w.alloc (.cells #[.pointer (some ⟨g,0,none⟩)] 106)).alloc (.cells #[.slice none 0 0] 22)) 4 (.bool false)
 have b3:=Boxed.new (((w.alloc (.cells #[.pointer (some ⟨g,0,none⟩)] 106)).alloc (.cells #[.slice none 0 0] 22)).alloc (.cells #[.bool false] 4)) 22 (.slice none 0 0)
 have s4:((((w.alloc (.cells #[.pointer (some ⟨g,0,none⟩)] 106)).alloc (.cells #[.slice none 0 0] 22)).alloc (.cells #[.bool false] 4)).alloc (.cells #[.slice none 0 0] 22)).heap.size = w.heap.size + 1 + 1 + 1 + 1:=by simp
 have s5:(((((w.alloc (.cells #[.pointer (some ⟨g,0,none⟩)] 106)).alloc (.cells #[.slice none 0 0] 22)).alloc (.cells #[.bool false] 4)).alloc (.cells #[.slice none 0 0] 22)).alloc (.cells #[v1] 74)).heap.size = w.heap.size + 1 + 1 + 1 + 1 + 1:=by simp
 have b4:=Boxed.new ((((w.alloc (.cells #[.pointer (some ⟨g,0,none⟩)] 106)).alloc (.cells #[.slice none 0 0] 22)).alloc (.cells #[.bool false] 4)).alloc (.cells #[.slice none 0 0] 22)) 74 v1
 have b5:=Boxed.new (((((w.alloc (.cells #[.pointer (some ⟨g,0,none⟩)] 106)).alloc (.cells #[.slice none 0 0] 22)).alloc (.cells #[.bool false] 4)).alloc (.cells #[.slice none 0 0] 22)).alloc (.cells #[v1] 74)) 3 (.int .i64 3)
 rw [s4] at b4
 rw [s5] at b5
 rw [s1] at b1
 rw [s2] at b2
 rw [s3] at b3
 exact ⟨(b3.alloc _).alloc _,Kd.own_nil _ _ _ _ _,((((b0.alloc _).alloc _).alloc _).alloc _).alloc _,(((b1.alloc _).alloc _).alloc _).alloc _,((b2.alloc _).alloc _).alloc _,b4.alloc _,b5⟩
def Arr (W:World) (G:Nat) (t:Triple):Prop:=W.heap[G]? = some (.cells (triL t).toArray 171 (0,0))
theorem Arr.lt {W:World} {G:Nat} {t:Triple} (h:Arr W G t):G < W.heap.size:=(Array.getElem?_eq_some_iff.1 h).1
theorem Arr.below {W W':World} {G:Nat} {t:Triple} (h:Arr W G t) (hb:Below W.heap.size W W'):Arr W' G t:=(hb.block G h.lt).trans h
theorem Arr.cell {W:World} {G:Nat} {t:Triple} (h:Arr W G t) (j:Nat) {v:Value} (hj:(triL t)[j]? = some v):W.cell? ⟨G,j,none⟩ = some v:=by
 unfold World.cell?
 dsimp only
 rw [show W.heap[G]? = _ from h]
 simpa using hj
theorem Arr.frozen {W:World} {G:Nat} {t:Triple} (h:Arr W G t) (j:Nat):W.frozen? ⟨G,j,none⟩ = false:=by
 unfold World.frozen?
 dsimp only
 rw [show W.heap[G]? = _ from h]
 try rfl
theorem set_heap {W:World} {G k:Nat} {C:Array Value} {e:TypeId} (h:W.heap[G]? = some (.cells C e (0,0))) (v:Value):(W.setCell ⟨G,k,none⟩ v).heap[G]? = some (.cells (C.setIfInBounds k v) e (0,0)):=by
 obtain ⟨hlt,hk⟩:=Array.getElem?_eq_some_iff.1 h
 show (W.heap.modify G _)[G]? = _
 rw [Array.getElem?_eq_getElem (by rw [Array.size_modify];exact hlt),Array.getElem_modify_self,hk]
 try rfl
theorem Arr.new (W:World):Arr (W.alloc (.cells #[.int .i64 0,.string ⟨#[]⟩,.string ⟨#[]⟩,.int .i64 0,.string ⟨#[]⟩,.string ⟨#[]⟩,.int .i64 0,.string ⟨#[]⟩,.string ⟨#[]⟩] 171)) W.heap.size ⟨⟨0,[],[]⟩,⟨0,[],[]⟩,⟨0,[],[]⟩⟩:=World.alloc_heap_new W _
theorem Arr.set0 {W:World} {G:Nat} {a b c:Term} (h:Arr W G ⟨a,b,c⟩) (u:Term):Arr (((W.setCell ⟨G,0,none⟩ (.int .i64 u.kind)).setCell ⟨G,1,none⟩ (.string (mkS u.text))).setCell ⟨G,2,none⟩ (.string (mkS u.extra))) G ⟨u,b,c⟩:=set_heap (set_heap (set_heap h _) _) _
theorem Arr.set1 {W:World} {G:Nat} {a b c:Term} (h:Arr W G ⟨a,b,c⟩) (u:Term):Arr (((W.setCell ⟨G,3,none⟩ (.int .i64 u.kind)).setCell ⟨G,4,none⟩ (.string (mkS u.text))).setCell ⟨G,5,none⟩ (.string (mkS u.extra))) G ⟨a,u,c⟩:=set_heap (set_heap (set_heap h _) _) _
theorem Arr.set2 {W:World} {G:Nat} {a b c:Term} (h:Arr W G ⟨a,b,c⟩) (u:Term):Arr (((W.setCell ⟨G,6,none⟩ (.int .i64 u.kind)).setCell ⟨G,7,none⟩ (.string (mkS u.text))).setCell ⟨G,8,none⟩ (.string (mkS u.extra))) G ⟨a,b,u⟩:=set_heap (set_heap (set_heap h _) _) _
theorem Arr.upd {W:World} {G m:Nat} (hm:m ≤ G) (w0:World) (hb:Below m w0 W) (k1 k2 k3:Nat) (v1 v2 v3:Value):Below m w0 (((W.setCell ⟨G,k1,none⟩ v1).setCell ⟨G,k2,none⟩ v2).setCell ⟨G,k3,none⟩ v3):=
 ((hb.setCell (p:=⟨G,k1,none⟩) hm v1).setCell (p:=⟨G,k2,none⟩) hm v2).setCell (p:=⟨G,k3,none⟩) hm v3
theorem bad_out {NoMk:Prop} {N:Nat} {Pt:List (Fin N) → List Triple → Prop} {s g:Nat} {sv:Value} {w W w2:World} {v:Value} {T:List Triple} {ys:List (Fin N)} {a:Act} {C:Array Value} {e:TypeId} (hno:NoMk) (hT:TI s g sv w2 v T) (hW:Below W.heap.size W w2) (hB:Below s w w2) (hs:s ≤ W.heap.size) (hx:Below s w W) :
  ownPostK (ChunkW.Kept s (s + 1 + 1 + 1 + 1) (s + 1 + 1 + 1 + 1 + 1)) (fun pre W=>(∃ v T,TI s g sv W v T∧Pt pre T)∧Below s w W)
   (fun c pre W=>(c = .ret∧NoMk∧Boxed W (s + 1) 22 (.slice none 0 0)∧Boxed W (s + 1 + 1) 4 (.bool false))∧Below s w W) ys W .ret a (((w2.alloc (.cells C e)).setCell ⟨s + 1,0,none⟩ (.slice none 0 0)).setCell ⟨s + 1 + 1,0,none⟩ (.bool false)):=by
 have h4:=(hT.r4.alloc (.cells C e)).set (.slice none 0 0)
 have h5:=(hT.r5.alloc (.cells C e)).kept (grownBy_setCell' _ (s + 1) (.slice none 0 0)) (by simp)
 refine ⟨?_,⟨rfl,hno,h4.kept (grownBy_setCell' _ (s + 1 + 1) (.bool false)) (by simp),h5.set _⟩,?_⟩
 ·
  exact (keeps_below (bel_alloc hW _)).trans ((KeepsOthers.setCell _ _ _).trans (KeepsOthers.setCell _ _ _))
 ·
  exact ((hB.trans ((bel_alloc (bR w2.heap.size w2) _).mono (by have:=hW.size;omega))).setCell (p:=⟨s + 1,0,none⟩) (by simp) _).setCell (p:=⟨s + 1 + 1,0,none⟩) (by simp;omega) _
theorem round_out {NoMk:Prop} {N:Nat} {Pt:List (Fin N) → List Triple → Prop} {s g:Nat} {sv:Value} {w W wr w5:World} {v v1:Value} {T T5:List Triple} {ys:List (Fin N)} {a:Act} (hT:TI s g sv W v T) (hW:Below W.heap.size W wr) (hB:Below s w W) (hs:s ≤ W.heap.size)
  (hP:Boxed w5 (s + 1 + 1 + 1) 22 v∧Boxed (w5.setCell ⟨s + 1 + 1 + 1,0,none⟩ v1) (s + 1 + 1 + 1) 22 v1∧triK.own 36 (w5.setCell ⟨s + 1 + 1 + 1,0,none⟩ v1) s FF v1 T5∧KeepsOthers wr (w5.setCell ⟨s + 1 + 1 + 1,0,none⟩ v1)∧Below s wr (w5.setCell ⟨s + 1 + 1 + 1,0,none⟩ v1) ∧
   ∀ B t u,Boxed wr B t u → t ≠ 36 → B ≠ s + 1 + 1 + 1 → Boxed (w5.setCell ⟨s + 1 + 1 + 1,0,none⟩ v1) B t u) (hPt:Pt ys T5) :
  ownPostK (ChunkW.Kept s (s + 1 + 1 + 1 + 1) (s + 1 + 1 + 1 + 1 + 1)) (fun pre W=>(∃ v T,TI s g sv W v T∧Pt pre T)∧Below s w W)
   (fun c pre W=>(c = .ret∧NoMk∧Boxed W (s + 1) 22 (.slice none 0 0)∧Boxed W (s + 1 + 1) 4 (.bool false))∧Below s w W) ys W .normal a (w5.setCell ⟨s + 1 + 1 + 1,0,none⟩ v1):=by
 have hT2:=hT.below hW
 obtain ⟨_,p2,p3,p4,p5,p6⟩:=hP
 have k4:=p6 _ _ _ hT2.bs (by decide) (by omega)
 have k5:=p6 _ _ _ hT2.bn (by decide) (by omega)
 refine ⟨(keeps_below hW).trans p4,⟨(hW.mono hs).trans p5,k4.trans hT.bs.symm,k5.trans hT.bn.symm⟩,⟨v1,T5,⟨p2,p3,p6 _ _ _ hT2.d (by decide) (by omega),p6 _ _ _ hT2.r4 (by decide) (by omega),p6 _ _ _ hT2.r5 (by decide) (by omega),k4,k5⟩,hPt⟩,(hB.trans (hW.mono hs)).trans p5⟩
def NQ (K:Act → World → Prop):Exit → Act → World → Prop
 | .normal,a,w=>K a w
 | _,_,_=>False
theorem wp_nq {P:Program} {c:Code} {Q:Exit → Act → World → Prop} {a:Act} {w:World} {K:Act → World → Prop} (hk:∀ a w,K a w → Q .normal a w) (h:c.wp P (NQ K) a w):c.wp P Q a w:=
 wp_mono h (fun e a w hq=>by cases e <;> first | exact hk _ _ hq | exact hq.elim)
theorem done_out {s g D:Nat} {sv:Value} {w0 W w2:World} {A7:Option Addr} {c7 n7:Nat} {T:List Triple} {r:Bool} (hT:TI s g sv w2 (.slice A7 n7 c7) T) (hW:Below W.heap.size W w2) (hB:Below s w0 W) (hs:s ≤ W.heap.size) (hD:s ≤ D) (hK:W.heap[D]? = some (.deferred (some []))) :
  ((w2.setCell ⟨s + 1,0,none⟩ (.slice A7 n7 c7)).setCell ⟨s + 1 + 1,0,none⟩ (.bool r)).heap[D]? = some (.deferred (some [])) ∧
  (((w2.setCell ⟨s + 1,0,none⟩ (.slice A7 n7 c7)).setCell ⟨s + 1 + 1,0,none⟩ (.bool r)).putObj D (.deferred none)).cell? ⟨s + 1,0,none⟩ = some (.slice A7 n7 c7) ∧
  (((w2.setCell ⟨s + 1,0,none⟩ (.slice A7 n7 c7)).setCell ⟨s + 1 + 1,0,none⟩ (.bool r)).putObj D (.deferred none)).cell? ⟨s + 1 + 1,0,none⟩ = some (.bool r) ∧
  triK.sl.M (((w2.setCell ⟨s + 1,0,none⟩ (.slice A7 n7 c7)).setCell ⟨s + 1 + 1,0,none⟩ (.bool r)).putObj D (.deferred none)) (fun _=>True) T [.slice A7 n7 c7] ∧
  Below s w0 (((w2.setCell ⟨s + 1,0,none⟩ (.slice A7 n7 c7)).setCell ⟨s + 1 + 1,0,none⟩ (.bool r)).putObj D (.deferred none)):=by
 have hk2:w2.heap[D]? = some (.deferred (some [])):=(hW.block D (Array.getElem?_eq_some_iff.1 hK).1).trans hK
 have hk3:=(KeepsOthers.setCell w2 ⟨s + 1,0,none⟩ (.slice A7 n7 c7)).same D _ hk2 rfl
 have hk4:=(KeepsOthers.setCell (w2.setCell ⟨s + 1,0,none⟩ (.slice A7 n7 c7)) ⟨s + 1 + 1,0,none⟩ (.bool r)).same D _ hk3 rfl
 have b4:=(hT.r4.set (.slice A7 n7 c7)).kept (grownBy_setCell' _ (s + 1 + 1) (.bool r)) (by simp)
 have b5:=(hT.r5.kept (grownBy_setCell' w2 (s + 1) (.slice A7 n7 c7)) (by simp)).set (.bool r)
 have hr:∀ q,some D = some q → ∃ o:Obj,((w2.setCell ⟨s + 1,0,none⟩ (.slice A7 n7 c7)).setCell ⟨s + 1 + 1,0,none⟩ (.bool r)).heap[q]? = some o∧o.isCells = false:=fun q e=>by cases e;exact ⟨_,hk4,rfl⟩
 have o1:=own_kept hT.own (grownBy_setCell' w2 (s + 1) (.slice A7 n7 c7)) (fun k hk e=>box_ne hT.r4 (by decide) hT.own (by rw [hk];exact e.symm))
 have o2:=own_kept o1 (grownBy_setCell' _ (s + 1 + 1) (.bool r)) (fun k hk e=>box_ne (hT.r5.kept (grownBy_setCell' w2 (s + 1) (.slice A7 n7 c7)) (by simp)) (by decide) o1 (by rw [hk];exact e.symm))
 have o3:=own_kept o2 (grownBy_putObj' _ D (.deferred none)) (own_not o2 hr)
 refine ⟨hk4,(b4.kept (grownBy_putObj' _ D (.deferred none)) (box_not b4 hr)).cell,(b5.kept (grownBy_putObj' _ D (.deferred none)) (box_not b5 hr)).cell,Kd.own_sl o3 (fun _ _=>trivial) (fun _ _=>trivial),?_⟩
 have h1:=((hB.trans (hW.mono hs)).setCell (p:=⟨s + 1,0,none⟩) (by simp) (.slice A7 n7 c7)).setCell (p:=⟨s + 1 + 1,0,none⟩) (by simp;omega) (.bool r)
 exact ⟨h1.os,h1.tape,h1.output,by have:=h1.size;simpa using this,fun k hk=>(World.putObj_heap_other (by omega)).trans (h1.block k hk)⟩
theorem trip_core (NoMk:Prop) (N:Nat) (Pt:List (Fin N) → List Triple → Prop) (Q:Nat → Term → Prop) (Bad:Nat → Prop) (tx:Nat → List UInt8) (num:Fin N → Nat → Nat) (g M c b off:Nat) (A:Option Addr) (w:World)
  (hA:0 < N → A = some ⟨b,off,none⟩) (hM1:M ≤ 3 * N) (hM2:3 * N ≤ M) (hN:N ≤ 100) (hlc:M ≤ c) (hcap:c ≤ maxLen)
  (hPt:Pt [] []) (hPs:∀ pre x T t0 t1 t2,Pt pre T → Q (num x 0) t0 → Q (num x 1) t1 → Q (num x 2) t2 → Pt (pre ++ [x]) (T ++ [⟨t0,t1,t2⟩])) (hPl:∀ pre T,Pt pre T → T.length = pre.length)
  (hnum:∀ x j,num x j ≤ 1000000) (hfit:∀ n t,Q n t → FitsW t) (hBad:∀ x j,j < 3 → Bad (num x j) → NoMk)
  (hcell:∀ (x:Fin N) j,j < 3 → ∀ W,Below w.heap.size w W → W.cell? ⟨b,off + 3 * x.1 + j,none⟩ = some (.int .i64 (num x j:Nat)))
  (HX:∀ (q:Nat),q ≤ 1000000 → ∀ W,Below w.heap.size w W → Calls Tryz.prog 114 #[.pointer (some ⟨g,0,none⟩),.int .i64 q] W fun e w'=>e = .returned (.string (mkS (tx q)))∧W = w')
  (HSh:∀ (q:Nat) W,Below w.heap.size w W → Calls Tryz.prog 113 #[.string (mkS (tx q))] W fun e w'=>((∃ t,Q q t∧e = .returned (.tuple #[.agg #[.int .i64 t.kind,.string (mkS t.text),.string (mkS t.extra)],.bool true])) ∨ (Bad q∧∃ t:Term,e = .returned (.tuple #[.agg #[.int .i64 t.kind,.string (mkS t.text),.string (mkS t.extra)],.bool false])))∧Below W.heap.size W w')
  (HC:∀ T,Pt (List.finRange N) T → ∀ A c W,Below w.heap.size w W → triK.sl.M W (fun k=>k < W.heap.size) T [.slice A T.length c] → Calls Tryz.prog 115 #[.slice A T.length c,.func (.func 116) #[] #[]] W fun e w'=>e = .returned (.bool (!T.all isTriple))∧Below W.heap.size W w') :
  Calls Tryz.prog 70 #[.pointer (some ⟨g,0,none⟩),.slice A M c] w fun e w'=>((NoMk∧∃ v,e = .returned (.tuple #[v,.bool false])) ∨ ∃ T A' c',Pt (List.finRange N) T∧e = .returned (.tuple #[.slice A' T.length c',.bool (T.all isTriple)])∧triK.sl.M w' (fun _=>True) T [.slice A' T.length c'])∧Below w.heap.size w w':=by
 refine (callsIn_wide (n:=9)).1 ?_
 refine callsIn_of_wp_marks Tryz.func70 rfl trivial ?_ rfl
 simp only [Tryz.ntmps70,List.size_toArray,List.length_cons,List.length_nil,Nat.reduceAdd,Nat.reduceSub,Array.replicate_succ,Array.replicate_zero,List.push_toArray,List.append_toArray,List.nil_append,List.cons_append]
 gi_wp2_with (refine ⟨trivial,?_⟩;gi_at_call 112;refine (callsIn_wide.2 (chunk_calls A M c _)).mono ?_;rintro e w' ⟨rfl,rfl⟩)
 have hTI0:=TI.new g w (.slice A M c)
 have hB0:Below w.heap.size w ((((((w.alloc (.cells #[.pointer (some ⟨g,0,none⟩)] 106)).alloc (.cells #[.slice none 0 0] 22)).alloc (.cells #[.bool false] 4)).alloc (.cells #[.slice none 0 0] 22)).alloc (.cells #[.slice A M c] 74)).alloc (.cells #[.int .i64 3] 3)):=bel_alloc (bel_alloc (bel_alloc (bel_alloc (bel_alloc (bel_alloc (bR _ _) _) _) _) _) _) _
 have hcs:((((((w.alloc (.cells #[.pointer (some ⟨g,0,none⟩)] 106)).alloc (.cells #[.slice none 0 0] 22)).alloc (.cells #[.bool false] 4)).alloc (.cells #[.slice none 0 0] 22)).alloc (.cells #[.slice A M c] 74)).alloc (.cells #[.int .i64 3] 3)).cell? ⟨w.heap.size + 1 + 1 + 1 + 1,0,none⟩ = some (.slice A M c):=by
  have h:=(Boxed.new ((((w.alloc (.cells #[.pointer (some ⟨g,0,none⟩)] 106)).alloc (.cells #[.slice none 0 0] 22)).alloc (.cells #[.bool false] 4)).alloc (.cells #[.slice none 0 0] 22)) 74 (.slice A M c)).alloc (.cells #[.int .i64 3] 3)
  rw [show ((((w.alloc (.cells #[.pointer (some ⟨g,0,none⟩)] 106)).alloc (.cells #[.slice none 0 0] 22)).alloc (.cells #[.bool false] 4)).alloc (.cells #[.slice none 0 0] 22)).heap.size = w.heap.size + 1 + 1 + 1 + 1 by simp] at h
  exact h.cell
 have hcn:((((((w.alloc (.cells #[.pointer (some ⟨g,0,none⟩)] 106)).alloc (.cells #[.slice none 0 0] 22)).alloc (.cells #[.bool false] 4)).alloc (.cells #[.slice none 0 0] 22)).alloc (.cells #[.slice A M c] 74)).alloc (.cells #[.int .i64 3] 3)).cell? ⟨w.heap.size + 1 + 1 + 1 + 1 + 1,0,none⟩ = some (.int .i64 3):=by
  have h:=Boxed.new (((((w.alloc (.cells #[.pointer (some ⟨g,0,none⟩)] 106)).alloc (.cells #[.slice none 0 0] 22)).alloc (.cells #[.bool false] 4)).alloc (.cells #[.slice none 0 0] 22)).alloc (.cells #[.slice A M c] 74)) 3 (.int .i64 3)
  rw [show (((((w.alloc (.cells #[.pointer (some ⟨g,0,none⟩)] 106)).alloc (.cells #[.slice none 0 0] 22)).alloc (.cells #[.bool false] 4)).alloc (.cells #[.slice none 0 0] 22)).alloc (.cells #[.slice A M c] 74)).heap.size = w.heap.size + 1 + 1 + 1 + 1 + 1 by simp] at h
  exact h.cell
 have hsz:((((((w.alloc (.cells #[.pointer (some ⟨g,0,none⟩)] 106)).alloc (.cells #[.slice none 0 0] 22)).alloc (.cells #[.bool false] 4)).alloc (.cells #[.slice none 0 0] 22)).alloc (.cells #[.slice A M c] 74)).alloc (.cells #[.int .i64 3] 3)).heap.size = w.heap.size + 1 + 1 + 1 + 1 + 1 + 1:=by simp
 obtain ⟨W0,hW0⟩:∃ W0,((((((w.alloc (.cells #[.pointer (some ⟨g,0,none⟩)] 106)).alloc (.cells #[.slice none 0 0] 22)).alloc (.cells #[.bool false] 4)).alloc (.cells #[.slice none 0 0] 22)).alloc (.cells #[.slice A M c] 74)).alloc (.cells #[.int .i64 3] 3)) = W0:=⟨_,rfl⟩
 rw [hW0] at hTI0 hB0 hcs hcn hsz ⊢
 clear hW0
 obtain ⟨s,hs⟩:∃ s,w.heap.size = s:=⟨_,rfl⟩
 rw [hs] at hTI0 hB0 hcs hcn hsz hcell HX HSh HC ⊢
 refine wpIn_rangeFunc_ownF rfl (by decide) (gf:=149) (lb:=#[.pointer (some ⟨s + 1 + 1 + 1 + 1,0,none⟩),.pointer (some ⟨s + 1 + 1 + 1 + 1 + 1,0,none⟩)]) rfl trivial (enters_of Tryz.func149 (by kernel_rfl) rfl)
  (chunk_stops 8 (by decide) (s + 1 + 1 + 1 + 1) (s + 1 + 1 + 1 + 1 + 1) s b off N M c A hA hM1 hM2 (by omega) hlc hcap W0 (by omega) (by omega) hcs hcn)
  (fun h k=>h.trans k) ?kb (bR _ _) (fun _=>rfl)
  (fun pre W=>(∃ v T,TI s g (.slice A M c) W v T∧Pt pre T)∧Below s w W)
  (fun c pre W=>(c = .ret∧NoMk∧Boxed W (s + 1) 22 (.slice none 0 0)∧Boxed W (s + 1 + 1) 4 (.bool false))∧Below s w W)
  ?hI ?hIx
  ⟨⟨_,_,hTI0,hPt⟩,hB0⟩
  (fun x=>{ tmps:=#[.pointer (some ⟨g,0,none⟩),.slice A M c,.pointer (some ⟨s,0,none⟩),undef,.pointer (some ⟨s + 1,0,none⟩),.pointer (some ⟨s + 1 + 1,0,none⟩),.pointer (some ⟨s + 1 + 1 + 1,0,none⟩),ChunkW.part b off x.1,undef,undef,undef,undef,undef,.slice A M c,.func (.func 149) #[] #[.pointer (some ⟨s + 1 + 1 + 1 + 1,0,none⟩),.pointer (some ⟨s + 1 + 1 + 1 + 1 + 1,0,none⟩)],ChunkW.part b off x.1,undef,undef,undef,undef,undef,undef,undef,undef,undef,undef,undef,undef,undef,undef,undef,undef,undef,undef,undef,undef,undef,undef,undef,undef,undef,undef,undef,undef,undef,undef,undef,undef,undef,undef],defers:=[] }) ?assign ?body ?done ?stop
 case kb =>
  intro W l o o' hl ho hc1 hc2
  refine ⟨belowK_b (w:=W0) (n₀:=s) (by omega) W l o o' hl ho hc1 hc2,?_,?_⟩
  ·
   exact World.putObj_heap_other (by omega)
  ·
   exact World.putObj_heap_other (by omega)
 case hI=>exact OwnFrom.and (Own.from (fun st X Y row h hg hr=>by
   obtain ⟨v,T,h1,h2⟩:=h
   exact ⟨v,T,h1.kept hg hr,h2⟩) _) (ownFrom_below (by omega) (by omega))
 case hIx=>exact fun c=>OwnFrom.and (Own.from (fun st X Y row h hg hr=>⟨h.1,h.2.1,h.2.2.1.kept hg (box_not h.2.2.1 hr),h.2.2.2.kept hg (box_not h.2.2.2 hr)⟩) _) (ownFrom_below (by omega) (by omega))
 case assign =>
  intro l x W K hK
  gi_wp2
  exact hK
 case body =>
  rintro l pre x W ⟨⟨v,T,hTI,hP⟩,hB⟩ hpl
  unfold ChunkW.part
  have HTI:=Zz hTI
  have HP:=Zz hP
  have HB:=Zz hB
  have HXd:=Zz HX
  have HSd:=Zz HSh
  have HCl:=Zz (hcell x)
  have HBd:=Zz (hBad x)
  have HFt:=Zz hfit
  have HPl:=Zz hPl
  have HPs:=Zz hPs
  have hn0:=hnum x 0
  have hn1:=hnum x 1
  have hn2:=hnum x 2
  have hws:s ≤ W.heap.size:=by have:=hB.size;omega
  have hbd:=hTI.d.cell
  clear hTI hP hB HX HSh HC hBad hfit hTI0 hB0 hcs hcn hPs hPl hnum hPt
  clear hcell
  have hA0:=Arr.new W
  have hb0:Below W.heap.size W (W.alloc (.cells #[.int .i64 0,.string ⟨#[]⟩,.string ⟨#[]⟩,.int .i64 0,.string ⟨#[]⟩,.string ⟨#[]⟩,.int .i64 0,.string ⟨#[]⟩,.string ⟨#[]⟩] 171)):=bel_alloc (bR _ _) _
  have HA0:=Zz hA0
  have HBL0:=Zz hb0
  clear hA0 hb0
  gi_wp2
  gi_loopw [18] (fun v18 wr=>∃ (j:Nat) (t:Triple),v18 = .int .i64 j∧j ≤ 3∧Hid (Arr wr W.heap.size t)∧Hid ((0 < j → Q (num x 0) t.s)∧(1 < j → Q (num x 1) t.p)∧(2 < j → Q (num x 2) t.o))∧Hid (Below W.heap.size W wr)) (fun v18 _=>3 - (intOf v18).toNat)
  case atStart=>exact ⟨0,_,rfl,by omega,HA0,Zz ⟨fun h=>absurd h (by omega),fun h=>absurd h (by omega),fun h=>absurd h (by omega)⟩,HBL0⟩
  case round =>
   obtain ⟨j,t,rfl,hj,HAr,HQ,HW⟩:=hrel
   clear HA0 HBL0
   by_cases hj3:j < 3
   ·
    obtain rfl | rfl | rfl:j = 0 ∨ j = 1 ∨ j = 2:=by omega
    ·
     have hbw:Below s w wr:=HB.o.trans (HW.o.mono hws)
     have hq:=HCl.o 0 (by decide) wr hbw
     rw [Nat.add_zero] at hq
     have hbd2:=(HW.o.cell (p:=⟨s,0,none⟩) HTI.o.d.lt).trans hbd
     gi_wp2_with (first | (refine ⟨trivial,?_⟩;gi_at_call 114;refine (CallsIn.inRound l (callsIn_wide.2 (HXd.o _ hn0 _ hbw))).mono ?_;rintro e w2 ⟨rfl,rfl⟩) | fail)
     refine ⟨trivial,?_⟩
     refine (CallsIn.inRound l (callsIn_wide.2 (HSd.o _ _ hbw))).mono ?_
     rintro e w2 ⟨hcase,hb2⟩
     have HW2:=Zz (bel_step HW.o hb2)
     have HBw2:Hid (Below s w w2):=Zz (HB.o.trans (HW2.o.mono hws))
     rcases hcase with ⟨u,hQu,rfl⟩ | ⟨hbad,u,rfl⟩
     ·
      have HA2:=Zz (HAr.o.below hb2)
      have HQu:=Zz hQu
      clear hq hbd2 hb2 hQu hbw
      obtain ⟨ta,tb,tc⟩:=t
      have a0:=fun o=>(HA2.o.below (bel_alloc (bR _ _) o)).cell 0 rfl
      have a1:=fun o=>(HA2.o.below (bel_alloc (bR _ _) o)).cell 1 rfl
      have a2:=fun o=>(HA2.o.below (bel_alloc (bR _ _) o)).cell 2 rfl
      have f0:=fun o=>(HA2.o.below (bel_alloc (bR _ _) o)).frozen 0
      have f1:=fun o=>(HA2.o.below (bel_alloc (bR _ _) o)).frozen 1
      have f2:=fun o=>(HA2.o.below (bel_alloc (bR _ _) o)).frozen 2
      have HWa:Hid (Below W.heap.size W (w2.alloc (.cells #[.int .i64 u.kind,.string (mkS u.text),.string (mkS u.extra)] 24))):=Zz (bel_alloc HW2.o _)
      have HAa:Hid (Arr (w2.alloc (.cells #[.int .i64 u.kind,.string (mkS u.text),.string (mkS u.extra)] 24)) W.heap.size ⟨ta,tb,tc⟩):=Zz (HA2.o.below (bel_alloc (bR _ _) _))
      gi_wp2
      go_roundw
      case rel =>
       refine ⟨1,_,by first | rfl | (congr 1),by omega,Zz (HAa.o.set0 u),?_,Zz (Arr.upd (lR _) W HWa.o _ _ _ _ _ _)⟩
       exact Zz ⟨fun h=>HQu.o,fun h=>absurd h (by omega),fun h=>absurd h (by omega)⟩
      case measure=>simp [intOf]
     ·
      have HNo:=Zz (HBd.o 0 (by decide) hbad)
      have HT2:=Zz (HTI.o.below HW2.o)
      have r4:=fun o=>(HT2.o.r4.alloc o).cell
      have r4f:=fun o=>(HT2.o.r4.alloc o).frozen
      have r5:=fun o=>(HT2.o.r5.alloc o).cell
      have r5f:=fun o=>(HT2.o.r5.alloc o).frozen
      clear hq hbd2 hb2 hbad hbw
      gi_wp2
      exact bad_out HNo.o HT2.o HW2.o HBw2.o hws HB.o
    ·
     have hbw:Below s w wr:=HB.o.trans (HW.o.mono hws)
     have hq:=HCl.o 1 (by decide) wr hbw
     skip
     have hbd2:=(HW.o.cell (p:=⟨s,0,none⟩) HTI.o.d.lt).trans hbd
     gi_wp2_with (first | (refine ⟨trivial,?_⟩;gi_at_call 114;refine (CallsIn.inRound l (callsIn_wide.2 (HXd.o _ hn1 _ hbw))).mono ?_;rintro e w2 ⟨rfl,rfl⟩) | fail)
     refine ⟨trivial,?_⟩
     refine (CallsIn.inRound l (callsIn_wide.2 (HSd.o _ _ hbw))).mono ?_
     rintro e w2 ⟨hcase,hb2⟩
     have HW2:=Zz (bel_step HW.o hb2)
     have HBw2:Hid (Below s w w2):=Zz (HB.o.trans (HW2.o.mono hws))
     rcases hcase with ⟨u,hQu,rfl⟩ | ⟨hbad,u,rfl⟩
     ·
      have HA2:=Zz (HAr.o.below hb2)
      have HQu:=Zz hQu
      clear hq hbd2 hb2 hQu hbw
      obtain ⟨ta,tb,tc⟩:=t
      have a0:=fun o=>(HA2.o.below (bel_alloc (bR _ _) o)).cell 3 rfl
      have a1:=fun o=>(HA2.o.below (bel_alloc (bR _ _) o)).cell 4 rfl
      have a2:=fun o=>(HA2.o.below (bel_alloc (bR _ _) o)).cell 5 rfl
      have f0:=fun o=>(HA2.o.below (bel_alloc (bR _ _) o)).frozen 3
      have f1:=fun o=>(HA2.o.below (bel_alloc (bR _ _) o)).frozen 4
      have f2:=fun o=>(HA2.o.below (bel_alloc (bR _ _) o)).frozen 5
      have HWa:Hid (Below W.heap.size W (w2.alloc (.cells #[.int .i64 u.kind,.string (mkS u.text),.string (mkS u.extra)] 24))):=Zz (bel_alloc HW2.o _)
      have HAa:Hid (Arr (w2.alloc (.cells #[.int .i64 u.kind,.string (mkS u.text),.string (mkS u.extra)] 24)) W.heap.size ⟨ta,tb,tc⟩):=Zz (HA2.o.below (bel_alloc (bR _ _) _))
      gi_wp2
      go_roundw
      case rel =>
       refine ⟨2,_,by first | rfl | (congr 1),by omega,Zz (HAa.o.set1 u),?_,Zz (Arr.upd (lR _) W HWa.o _ _ _ _ _ _)⟩
       exact Zz ⟨fun h=>HQ.o.1 (by omega),fun h=>HQu.o,fun h=>absurd h (by omega)⟩
      case measure=>simp [intOf]
     ·
      have HNo:=Zz (HBd.o 1 (by decide) hbad)
      have HT2:=Zz (HTI.o.below HW2.o)
      have r4:=fun o=>(HT2.o.r4.alloc o).cell
      have r4f:=fun o=>(HT2.o.r4.alloc o).frozen
      have r5:=fun o=>(HT2.o.r5.alloc o).cell
      have r5f:=fun o=>(HT2.o.r5.alloc o).frozen
      clear hq hbd2 hb2 hbad hbw
      gi_wp2
      exact bad_out HNo.o HT2.o HW2.o HBw2.o hws HB.o
    ·
     have hbw:Below s w wr:=HB.o.trans (HW.o.mono hws)
     have hq:=HCl.o 2 (by decide) wr hbw
     skip
     have hbd2:=(HW.o.cell (p:=⟨s,0,none⟩) HTI.o.d.lt).trans hbd
     gi_wp2_with (first | (refine ⟨trivial,?_⟩;gi_at_call 114;refine (CallsIn.inRound l (callsIn_wide.2 (HXd.o _ hn2 _ hbw))).mono ?_;rintro e w2 ⟨rfl,rfl⟩) | fail)
     refine ⟨trivial,?_⟩
     refine (CallsIn.inRound l (callsIn_wide.2 (HSd.o _ _ hbw))).mono ?_
     rintro e w2 ⟨hcase,hb2⟩
     have HW2:=Zz (bel_step HW.o hb2)
     have HBw2:Hid (Below s w w2):=Zz (HB.o.trans (HW2.o.mono hws))
     rcases hcase with ⟨u,hQu,rfl⟩ | ⟨hbad,u,rfl⟩
     ·
      have HA2:=Zz (HAr.o.below hb2)
      have HQu:=Zz hQu
      clear hq hbd2 hb2 hQu hbw
      obtain ⟨ta,tb,tc⟩:=t
      have a0:=fun o=>(HA2.o.below (bel_alloc (bR _ _) o)).cell 6 rfl
      have a1:=fun o=>(HA2.o.below (bel_alloc (bR _ _) o)).cell 7 rfl
      have a2:=fun o=>(HA2.o.below (bel_alloc (bR _ _) o)).cell 8 rfl
      have f0:=fun o=>(HA2.o.below (bel_alloc (bR _ _) o)).frozen 6
      have f1:=fun o=>(HA2.o.below (bel_alloc (bR _ _) o)).frozen 7
      have f2:=fun o=>(HA2.o.below (bel_alloc (bR _ _) o)).frozen 8
      have HWa:Hid (Below W.heap.size W (w2.alloc (.cells #[.int .i64 u.kind,.string (mkS u.text),.string (mkS u.extra)] 24))):=Zz (bel_alloc HW2.o _)
      have HAa:Hid (Arr (w2.alloc (.cells #[.int .i64 u.kind,.string (mkS u.text),.string (mkS u.extra)] 24)) W.heap.size ⟨ta,tb,tc⟩):=Zz (HA2.o.below (bel_alloc (bR _ _) _))
      gi_wp2
      go_roundw
      case rel =>
       refine ⟨3,_,by first | rfl | (congr 1),by omega,Zz (HAa.o.set2 u),?_,Zz (Arr.upd (lR _) W HWa.o _ _ _ _ _ _)⟩
       exact Zz ⟨fun h=>HQ.o.1 (by omega),fun h=>HQ.o.2.1 (by omega),fun h=>HQu.o⟩
      case measure=>simp [intOf]
     ·
      have HNo:=Zz (HBd.o 2 (by decide) hbad)
      have HT2:=Zz (HTI.o.below HW2.o)
      have r4:=fun o=>(HT2.o.r4.alloc o).cell
      have r4f:=fun o=>(HT2.o.r4.alloc o).frozen
      have r5:=fun o=>(HT2.o.r5.alloc o).cell
      have r5f:=fun o=>(HT2.o.r5.alloc o).frozen
      clear hq hbd2 hb2 hbad hbw
      gi_wp2
      exact bad_out HNo.o HT2.o HW2.o HBw2.o hws HB.o
   ·
    have hj4:j = 3:=by omega
    subst hj4
    obtain ⟨⟨sk,sx,se⟩,⟨pk,px,pe⟩,⟨ok,ox,oe⟩⟩:=t
    have hbl:=(HW.o.cell (p:=⟨s + 1 + 1 + 1,0,none⟩) HTI.o.l.lt).trans HTI.o.l.cell
    have y0:=HAr.o.cell 0 rfl
    have y1:=HAr.o.cell 1 rfl
    have y2:=HAr.o.cell 2 rfl
    have y3:=HAr.o.cell 3 rfl
    have y4:=HAr.o.cell 4 rfl
    have y5:=HAr.o.cell 5 rfl
    have y6:=HAr.o.cell 6 rfl
    have y7:=HAr.o.cell 7 rfl
    have y8:=HAr.o.cell 8 rfl
    dsimp only at y0 y1 y2 y3 y4 y5 y6 y7 y8
    have hTl:T.length ≤ 100:=by have:=HPl.o pre T HP.o;omega
    have hbw:Below s w wr:=HB.o.trans (HW.o.mono hws)
    have HOw:=Zz (Kd.own_below HTI.o.own HW.o)
    have HFw:Hid (FitsW3 ⟨⟨sk,sx,se⟩,⟨pk,px,pe⟩,⟨ok,ox,oe⟩⟩):=Zz ⟨HFt.o _ _ (HQ.o.1 (by omega)),HFt.o _ _ (HQ.o.2.1 (by omega)),HFt.o _ _ (HQ.o.2.2 (by omega))⟩
    have HBr:=Zz hbw
    have hsr:s ≤ wr.heap.size:=by have:=hbw.size;omega
    clear hbw
    obtain ⟨T5,hT5⟩:∃ T5,T5 = T ++ [(⟨⟨sk,sx,se⟩,⟨pk,px,pe⟩,⟨ok,ox,oe⟩⟩:Triple)]:=⟨_,rfl⟩
    have HT5:=Zz hT5
    have HP5:Hid (Pt (pre ++ [x]) T5):=Zz (by rw [hT5];exact HPs.o pre x T _ _ _ HP.o (HQ.o.1 (by omega)) (HQ.o.2.1 (by omega)) (HQ.o.2.2 (by omega)))
    clear hT5
    gi_wp2_with (gi_at_builtin;refine own_app1_in triK (w0:=wr) s (by rfl) (.tmp 36) (.tmp 44) 22 36 zeroV 120 (by rfl) Tryz.underlying22 info_tri rfl (by decide) v T ⟨⟨sk,sx,se⟩,⟨pk,px,pe⟩,⟨ok,ox,oe⟩⟩ (triL ⟨⟨sk,sx,se⟩,⟨pk,px,pe⟩,⟨ok,ox,oe⟩⟩) FF (by rfl) (by rfl) HOw.o ⟨rfl,HFw.o⟩ (bR _ _) hsr (by omega) ?_;intro v1 w5 ho5 hb5 hg5;rw [← HT5.o] at ho5;have HO5:=Zz ho5;have HPu:=Zz (pushed (box_below HTI.o.l HW.o) (by decide) HOw.o (by omega) ho5 hg5 hb5);have hbl5:=HPu.o.1.cell;have hbf5:=HPu.o.1.frozen;clear ho5 hb5 hg5;obtain ⟨A5,c5,rfl,_,_⟩:=Kd.own_slice HO5.o)
    exact round_out HTI.o HW.o HB.o hws HPu.o HP5.o
 case done =>
  rintro D ys W hD rfl ⟨⟨v,T,hTI,hP⟩,hB⟩ hK
  have hl:=hTI.l.cell
  have h4:=hTI.r4.cell
  have h4f:=hTI.r4.frozen
  have h5:=hTI.r5.cell
  have h5f:=hTI.r5.frozen
  have hss:s ≤ W.heap.size:=by have:=hB.size;omega
  have HTI:=Zz hTI
  have HBW:=Zz hB
  obtain ⟨A7,c7,rfl,_,_⟩:=Kd.own_slice hTI.own
  have HCn:=Zz (HC T hP A7 c7 W.drew (hB.trans ((bel_drew (bR W.heap.size W)).mono hss)) (Kd.M_bound (Kd.M_below (Kd.M_bound (Kd.own_sl (ok':=fun _=>True) hTI.own (fun _ _=>trivial) (fun _ _=>trivial))) (bel_drew (bR _ _)))))
  have HPt:=Zz hP
  have HKD:=Zz hK
  clear hTI hB hP hK HC HX HSh
  gi_wp2
  refine wpIn_wide.2 ?_
  refine wp_nq (fun _ _ h=>h) ?_
  refine HeldZ.region (fun W=>W.cell? ⟨s + 1 + 1 + 1,0,none⟩ = some (Value.slice A7 T.length c7)) 5 6 #[false,false,false,false,false,false] (by kernel_rfl) rfl rfl ?_
  intro hinv
  have hS:W.drew.cell? ⟨s + 1 + 1 + 1,0,none⟩ = some (Value.slice A7 T.length c7):=hl
  refine HeldZ.tk 0 hinv hS ?_
  clear hinv
  intro hinv
  try simp only [List.getElem_toArray,List.getElem_cons_zero,List.getElem_cons_succ,Act.put,HeldZ.sm] at hinv ⊢
  refine HeldZ.tk 1 hinv hS ?_
  clear hinv
  intro hinv
  try simp only [List.getElem_toArray,List.getElem_cons_zero,List.getElem_cons_succ,Act.put,HeldZ.sm] at hinv ⊢
  refine HeldZ.ow 2 hinv ?_
  clear hinv
  intro hinv K hK
  go_simp
  refine HCn.o.mono ?_
  rintro e w2 ⟨rfl,hb2⟩
  have HB2:=Zz (bel_step (bel_drew (bR W.heap.size W)) hb2)
  have HT2:=Zz (HTI.o.below HB2.o)
  clear hS
  have hS:=HT2.o.l.cell
  have h4:=HT2.o.r4.cell
  have h4f:=HT2.o.r4.frozen
  have h5:=HT2.o.r5.cell
  have h5f:=HT2.o.r5.frozen
  clear hb2
  refine hK _ _ (fun _=>hS) ?_
  clear hK K
  try simp only [List.getElem_toArray,List.getElem_cons_zero,List.getElem_cons_succ,Act.put,HeldZ.sm] at hinv ⊢
  refine HeldZ.tk 3 hinv hS ?_
  clear hinv
  intro hinv
  try simp only [List.getElem_toArray,List.getElem_cons_zero,List.getElem_cons_succ,Act.put,HeldZ.sm] at hinv ⊢
  refine HeldZ.ow 4 hinv ?_
  clear hinv
  intro hinv K hK
  go_simp
  have h5':Boxed (w2.setCell ⟨s + 1,0,none⟩ (.slice A7 T.length c7)) (s + 1 + 1) 4 (.bool false):=HT2.o.r5.kept (grownBy_setCell' _ (s + 1) _) (by simp)
  have hl':Boxed (w2.setCell ⟨s + 1,0,none⟩ (.slice A7 T.length c7)) (s + 1 + 1 + 1) 22 (.slice A7 T.length c7):=HT2.o.l.kept (grownBy_setCell' _ (s + 1) _) (by simp;omega)
  have h5c:=h5'.cell
  have h5cf:=h5'.frozen
  clear hS
  have hS:=hl'.cell
  refine hK _ _ (fun _=>hS) ?_
  clear hK K
  try simp only [List.getElem_toArray,List.getElem_cons_zero,List.getElem_cons_succ,Act.put,HeldZ.sm] at hinv ⊢
  refine HeldZ.oneW 5 hinv (by kernel_rfl) rfl (by rfl) ?_
  clear hinv
  intro _ K hK
  go_simp
  refine hK _ _ (fun h=>absurd rfl h) ?_
  refine HeldZ.done (by kernel_rfl) ?_ _
  clear hK K hS
  unfold NQ
  dsimp only
  gi_wp2
  obtain ⟨d1,d2,d3,d4,d5⟩:=done_out (r:=T.all isTriple) HT2.o HB2.o HBW.o hss (by omega) (w0:=w) HKD.o
  refine ⟨by simp,.inl ⟨_,_,rfl,run_takeDeferred d1,?_⟩⟩
  refine ⟨.tuple #[.slice A7 T.length c7,.bool (T.all isTriple)],?_,.inr ⟨T,A7,c7,HPt.o,rfl,d4⟩,by rw [hs];exact d5⟩
  simp [results,Tryz.f70,go_sem,d2,d3]
 case stop =>
  rintro D c pre W hD hpre ⟨⟨rfl,hno,h4,h5⟩,hB⟩ hK
  gi_wp2
  refine ⟨by simp,.inl ⟨_,_,rfl,run_takeDeferred hK,?_⟩⟩
  have c4:=cell_kept h4.cell (grownBy_putObj' _ D (.deferred none)) (fun r e=>by cases e;exact ⟨_,hK,rfl⟩)
  have c5:=cell_kept h5.cell (grownBy_putObj' _ D (.deferred none)) (fun r e=>by cases e;exact ⟨_,hK,rfl⟩)
  refine ⟨.tuple #[.slice none 0 0,.bool false],?_,.inl ⟨hno,_,rfl⟩,by rw [hs];exact hB.trans (belowK_b (w:=W0) (n₀:=s) (by omega) W D _ _ (by omega) hK rfl rfl)⟩
  simp [results,Tryz.f70,go_sem,c4,c5]
end TripW
namespace Round
open Go.Lib TermPure LinesPure
end Round
namespace RefTerm
open Go.RowKit Go.Lib B Rd TermPure LinesPure Tri Env Tc Ref5 StoreP
end RefTerm
namespace RefTerm
open Go.RowKit Go.Lib B Rd TermPure LinesPure Tri Env Tc Ref5 StoreP StoreW Clones FrontW
end RefTerm
namespace RefTrip
open Go.RowKit Go.Lib B Rd TermPure LinesPure Tri SortP OrdG StoreP StoreW Clones SortW
theorem nums_at:∀ (I:List Ids) (i:Nat) (h:i < I.length),(nums I)[3 * i]? = some I[i].a∧(nums I)[3 * i + 1]? = some I[i].b∧(nums I)[3 * i + 2]? = some I[i].c
 | x :: I,0,_=>⟨rfl,rfl,rfl⟩
 | x :: I,i + 1,h=>by
  have h':i < I.length:=by simpa using h
  obtain ⟨h1,h2,h3⟩:=nums_at I i h'
  have e:nums (x :: I) = x.a :: x.b :: x.c :: nums I:=rfl
  rw [e,show 3 * (i + 1) = 3 * i + 1 + 1 + 1 by omega,show 3 * i + 1 + 1 + 1 + 1 = (3 * i + 1) + 1 + 1 + 1 by omega,show 3 * i + 1 + 1 + 1 + 2 = (3 * i + 2) + 1 + 1 + 1 by omega]
  simp only [List.getElem?_cons_succ,List.getElem_cons_succ]
  exact ⟨h1,h2,h3⟩
 | [],i,h=>absurd h (by simp)
def Some1 (E:List Term) (I:List Ids) (k:Nat) (T:List Triple):Prop:=T.length = k∧Valid T∧∀ i (h:i < I.length) (h':i < T.length),At1 (E.map shown) I[i].a T[i].s∧At1 (E.map shown) I[i].b T[i].p∧At1 (E.map shown) I[i].c T[i].o
theorem Some1.snoc {E:List Term} {I:List Ids} {k:Nat} {T:List Triple} (h:Some1 E I k T) (hk:k < I.length) {t:Triple} (ht:isTriple t = true) (h1:At1 (E.map shown) I[k].a t.s) (h2:At1 (E.map shown) I[k].b t.p) (h3:At1 (E.map shown) I[k].c t.o):Some1 E I (k + 1) (T ++ [t]):=by
 refine ⟨by rw [List.length_append,h.1];rfl,fun x hx=>?_,fun i hi hi'=>?_⟩
 ·
  rcases List.mem_append.1 hx with hx | hx
  ·
   exact h.2.1 x hx
  ·
   simp at hx;subst hx;exact ht
 ·
  by_cases hik:i < T.length
  ·
   rw [List.getElem_append_left hik]
   exact h.2.2 i hi hik
  ·
   have e:i = k:=by rw [List.length_append,h.1] at hi';have:=h.1;simp at hi';omega
   subst e
   have e2:(T ++ [t])[i] = t:=by
    rw [List.getElem_append_right (by omega)]
    simp [h.1]
   rw [e2]
   exact ⟨h1,h2,h3⟩
theorem Some1.makes {E:List Term} {I:List Ids} {T:List Triple} (h:Some1 E I I.length T):Makes (E.map shown) I T:=⟨h.1,h.2.2⟩
end RefTrip
namespace TripC
open Go.RowKit Go.Lib B Rd TermPure LinesPure Tri Long Env
def IsT3 (t:Triple):Prop:=is t.s = true∧is t.p = true∧is t.o = true
theorem IsT3.fits {t:Triple} (h:IsT3 t):Ref5.FitsT t∧(t.s.extra.length ≤ 4294967000∧t.p.extra.length ≤ 4294967000∧t.o.extra.length ≤ 4294967000)∧FitsW3 t:=by
 have h1:=ParseP.is_small h.1
 have h2:=ParseP.is_small h.2.1
 have h3:=ParseP.is_small h.2.2
 unfold Ref5.FitsT Ref5.Fits FitsW3 FitsW
 omega
theorem clo_calls (t:Triple) (ht:IsT3 t) (w:World) (he:Env w) :
  Calls Tryz.prog 116 #[Ref5.tripleV t] w fun e w'=>e = .returned (.bool (!isTriple t))∧Below w.heap.size w w':=by
 have hb:Below w.heap.size w (w.alloc (.cells (triL t).toArray 36)):=bel_alloc (bR _ _) _
 have hx:=C9.new w t
 obtain ⟨w0,hw0⟩:∃ w0,w0 = w.alloc (.cells (triL t).toArray 36):=⟨_,rfl⟩
 rw [← hw0] at hb hx
 have HB:=Zz hb
 have HW:Hid (w.alloc (.cells (triL t).toArray 36) = w0):=Zz hw0.symm
 have HM:=Zz (Prg.pist_calls t ht.fits.1 ht.fits.2.1 w0 (he.below hb))
 obtain ⟨x0,x1,x2,x3,x4,x5,x6,x7,x8⟩:=hx
 simp only [Nat.zero_add] at x1 x2 x3 x4 x5 x6 x7 x8
 generalize isTriple t = v at *
 clear hb hw0 ht he
 obtain ⟨⟨sk,sx,se⟩,⟨pk,px,pe⟩,⟨ok,ox,oe⟩⟩:=t
 unfold triL at HW
 unfold Ref5.tripleV at *
 dsimp only at *
 go_enter Tryz.func116,Tryz.ntmps116
 go_upto_region 1 with fail
 rw [HW.o]
 clear HW
 go_wp2_with fail
 refine HM.o.mono ?_
 rintro e w2 ⟨rfl,hb2⟩
 have HB2:=Zz (bel_step HB.o hb2)
 clear hb2 HM
 go_wp2
 go_ret
 exact ⟨rfl,HB2.o⟩
theorem all_snoc {l:List Triple} {k:Nat} (h:k < l.length) (hk:(l.take k).all isTriple = true) (hx:isTriple l[k] = true):(l.take (k + 1)).all isTriple = true:=by
 rw [List.take_succ_eq_append_getElem h,List.all_append,hk]
 simp [hx]
theorem all_not {l:List Triple} {k:Nat} (h:k < l.length) (hx:isTriple l[k] = false):l.all isTriple = false:=by
 rw [← Bool.not_eq_true,List.all_eq_true]
 intro h2
 rw [h2 _ (List.getElem_mem h)] at hx
 cases hx
theorem index_calls (l:List Triple) (hl:l.length ≤ 1000) (hf:∀ t ∈ l,IsT3 t) (A:Option Addr) (c:Nat) (w:World) (he:Env w) (HL:triK.sl.M w (fun k=>k < w.heap.size) l [.slice A l.length c]) :
  Calls Tryz.prog 150 #[.slice A l.length c,.func (.func 116) #[] #[]] w fun e w'=>(∃ r:Int,e = .returned (.int .i64 r)∧((r = -1∧l.all isTriple = true) ∨ (0 ≤ r∧l.all isTriple = false)))∧Below w.heap.size w w':=by
 have HR:=Zz (row_cells HL)
 have HF:=Zz hf
 have HE:=Zz he
 clear HL he hf
 go_enter Tryz.func150,Tryz.ntmps150
 go_wp2
 go_loopw [8] (fun vk wr=>∃ k:Nat,vk = .int .i64 k∧k ≤ l.length∧Hid ((l.take k).all isTriple = true∧Below w.heap.size w wr)) (fun vk _=>l.length - (intOf vk).toNat)
 case atStart=>exact ⟨0,rfl,by omega,Zz ⟨rfl,bR _ _⟩⟩
 case round =>
  obtain ⟨k,rfl,hkL,HI⟩:=hrel
  by_cases hlt:k < l.length
  ·
   have hd:decide (k < l.length) = true:=dT hlt
   have ik:(k:Int) < (l.length:Int):=by omega
   obtain ⟨b,off,rfl,hb,hcells⟩:=HR.o k hlt
   obtain ⟨z0,z1,z2,z3,z4,z5,z6,z7,z8⟩:=(hcells k hlt).below HI.o.2
   have hft:=HF.o l[k] (List.getElem_mem hlt)
   have HS:Hid (isTriple l[k] = true → (l.take (k + 1)).all isTriple = true):=Zz (fun h=>all_snoc hlt HI.o.1 h)
   have HNo:Hid (isTriple l[k] = false → l.all isTriple = false):=Zz (fun h=>all_not hlt h)
   have HB:=Zz HI.o.2
   clear hcells HI
   obtain ⟨t,ht⟩:∃ t,t = l[k]:=⟨_,rfl⟩
   rw [← ht] at z0 z1 z2 z3 z4 z5 z6 z7 z8 hft HS HNo
   clear ht
   have HC:=Zz (clo_calls t hft wr (HE.o.below HB.o))
   obtain ⟨v,hv⟩:∃ v,v = isTriple t:=⟨_,rfl⟩
   rw [← hv] at HC HS HNo
   clear hv hft
   obtain ⟨⟨sk,sx,se⟩,⟨pk,px,pe⟩,⟨ok,ox,oe⟩⟩:=t
   unfold Ref5.tripleV at HC
   dsimp only at z0 z1 z2 z3 z4 z5 z6 z7 z8 HC
   cases v
   ·
    have HV:=Zz (HNo.o rfl)
    clear HNo HS
    go_wp2_with fail
    refine HC.o.mono ?_
    rintro e w2 ⟨rfl,hb2⟩
    have HB2:=Zz (bel_step HB.o hb2)
    clear hb2 HC
    go_wp2
    go_ret
    exact ⟨⟨_,rfl,.inr ⟨by omega,HV.o⟩⟩,HB2.o⟩
   ·
    have HV:=Zz (HS.o rfl)
    clear HNo HS
    go_wp2_with fail
    refine HC.o.mono ?_
    rintro e w2 ⟨rfl,hb2⟩
    have HB2:=Zz (bel_step HB.o hb2)
    clear hb2 HC
    go_wp2
    go_roundw
    case rel=>exact ⟨k + 1,by go_num,by omega,Zz ⟨HV.o,HB2.o⟩⟩
    case measure=>simp [intOf];omega
  ·
   have hd:decide (k < l.length) = false:=dF hlt
   obtain rfl:k = l.length:=by omega
   have HV:Hid (l.all isTriple = true):=Zz (by have h:=HI.o.1;rw [List.take_length] at h;exact h)
   have HB:=Zz HI.o.2
   clear HI
   go_wp2
   go_ret
   exact ⟨⟨_,rfl,.inl ⟨rfl,HV.o⟩⟩,HB.o⟩
theorem contains_calls (l:List Triple) (hl:l.length ≤ 1000) (hf:∀ t ∈ l,IsT3 t) (A:Option Addr) (c:Nat) (w:World) (he:Env w) (HL:triK.sl.M w (fun k=>k < w.heap.size) l [.slice A l.length c]) :
  Calls Tryz.prog 115 #[.slice A l.length c,.func (.func 116) #[] #[]] w fun e w'=>e = .returned (.bool (!l.all isTriple))∧Below w.heap.size w w':=by
 have HC:=Zz (index_calls l hl hf A c w he HL)
 clear HL he hf
 go_enter Tryz.func115,Tryz.ntmps115
 go_wp2_with fail
 refine HC.o.mono ?_
 rintro e w2 ⟨⟨r,rfl,hr⟩,hb2⟩
 have HB2:=Zz hb2
 clear hb2 HC
 rcases hr with ⟨rfl,hv⟩ | ⟨h0,hv⟩
 ·
  have HV:=Zz hv
  clear hv
  go_wp2
  go_ret
  exact ⟨by rw [HV.o];rfl,HB2.o⟩
 ·
  have hd:decide (r ≥ 0) = true:=dT h0
  have hd':decide (0 ≤ r) = true:=dT h0
  have HV:=Zz hv
  clear hv
  go_wp2
  go_ret
  exact ⟨by rw [HV.o];first | rfl | trivial,HB2.o⟩
end TripC
namespace TripP
open Go.Lib TermPure LinesPure Tri SortP OrdG ParseP StoreP TripC
def textOf (L:List (List UInt8)) (n:Nat):List UInt8:=if 1 ≤ n then L.getD (n - 1) [] else []
theorem at1_text {L:List (List UInt8)} {n:Nat} {t:Term} (h:At1 L n t):textOf L n = shown t:=by
 unfold textOf
 rw [if_pos h.2.1,List.getD_eq_getElem?_getD,h.2.2]
 try rfl
theorem at1_of_text {L:List (List UInt8)} {n:Nat} {t:Term} (h:TermIs (textOf L n) (some t)):At1 L n t:=by
 obtain ⟨h1,h2⟩:=(h t).1 rfl
 have hne:=shown_ne h1
 rw [h2] at hne
 unfold textOf at h2 hne
 by_cases hn:1 ≤ n
 ·
  rw [if_pos hn,List.getD_eq_getElem?_getD] at h2 hne
  refine ⟨h1,hn,?_⟩
  cases hg:L[n - 1]? with
  | none=>rw [hg] at hne;exact absurd rfl hne
  | some x=>rw [hg] at h2;rw [h2];rfl
 ·
  rw [if_neg hn] at hne
  exact absurd rfl hne
theorem text_len {L:List (List UInt8)} {m:Nat} (h:∀ x ∈ L,x.length ≤ m) (n:Nat):(textOf L n).length ≤ m:=by
 unfold textOf
 split
 ·
  rw [List.getD_eq_getElem?_getD]
  cases hg:L[n - 1]? with
  | none=>simp
  | some x=>exact h x (List.mem_of_getElem? hg)
 ·
  simp
theorem none_makes {L:List (List UInt8)} {I:List Ids} {k:Nat} (h:k < I.length) {n:Nat} (hn:n = I[k].a ∨ n = I[k].b ∨ n = I[k].c) (ht:TermIs (textOf L n) none) (T:List Triple):¬ Makes L I T:=fun hm=>by
 obtain ⟨a1,a2,a3⟩:=hm.2 k h (by rw [hm.1];exact h)
 have key:∀ t,At1 L n t → False:=fun t ha=>by
  have:=(ht t).2 ⟨ha.1,(at1_text ha).symm⟩
  cases this
 rcases hn with rfl | rfl | rfl
 ·
  exact key _ a1
 ·
  exact key _ a2
 ·
  exact key _ a3
def AtI (L:List (List UInt8)) (I:List Ids) (x:Fin I.length) (t:Triple):Prop:=At1 L I[x.1].a t.s∧At1 L I[x.1].b t.p∧At1 L I[x.1].c t.o
def Part (L:List (List UInt8)) (I:List Ids) (pre:List (Fin I.length)) (T:List Triple):Prop:=
 T.length = pre.length∧∀ i (h:i < pre.length) (h':i < T.length),AtI L I pre[i] T[i]
theorem Part.nil (L:List (List UInt8)) (I:List Ids):Part L I [] []:=⟨rfl,fun i h=>absurd h (by simp)⟩
theorem Part.snoc {L:List (List UInt8)} {I:List Ids} {pre:List (Fin I.length)} {T:List Triple} (h:Part L I pre T) {x:Fin I.length} {t:Triple} (h1:At1 L I[x.1].a t.s) (h2:At1 L I[x.1].b t.p) (h3:At1 L I[x.1].c t.o):Part L I (pre ++ [x]) (T ++ [t]):=by
 refine ⟨by simp [h.1],fun i hi hi'=>?_⟩
 by_cases hik:i < T.length
 ·
  have hip:i < pre.length:=by rw [← h.1];exact hik
  have e1:(T ++ [t])[i] = T[i]:=List.getElem_append_left hik
  have e2:(pre ++ [x])[i] = pre[i]:=List.getElem_append_left hip
  rw [e1,e2]
  exact h.2 i hip hik
 ·
  have hlt:i = T.length:=by simp at hi';omega
  have hlp:i = pre.length:=by rw [hlt,h.1]
  have e1:(T ++ [t])[i] = t:=by rw [List.getElem_append_right (by omega)];simp [hlt]
  have e2:(pre ++ [x])[i] = x:=by rw [List.getElem_append_right (by omega)];simp [hlp]
  rw [e1,e2]
  exact ⟨h1,h2,h3⟩
theorem Part.makes {L:List (List UInt8)} {I:List Ids} {T:List Triple} (h:Part L I (List.finRange I.length) T):Makes L I T:=by
 refine ⟨by rw [h.1];simp,fun i hi hi'=>?_⟩
 have:=h.2 i (by simpa using hi) hi'
 rw [List.getElem_finRange] at this
 exact this
theorem Part.is {L:List (List UInt8)} {I:List Ids} {pre:List (Fin I.length)} {T:List Triple} (h:Part L I pre T):∀ t ∈ T,IsT3 t:=fun t ht=>by
 obtain ⟨i,hi,rfl⟩:=List.mem_iff_getElem.1 ht
 obtain ⟨a1,a2,a3⟩:=h.2 i (by rw [← h.1];exact hi) hi
 exact ⟨a1.1,a2.1,a3.1⟩
theorem Part.len {L:List (List UInt8)} {I:List Ids} {pre:List (Fin I.length)} {T:List Triple} (h:Part L I pre T):T.length = pre.length:=h.1
theorem makes_all {L:List (List UInt8)} {I:List Ids} {T:List Triple} (h:Makes L I T) (hv:T.all isTriple = false) (U:List Triple) (hU:Valid U):¬ Makes L I U:=fun hm=>by
 have:=hm.inj h
 subst this
 have h2:U.all isTriple = true:=List.all_eq_true.2 (fun x hx=>hU x hx)
 rw [h2] at hv
 cases hv
end TripP
namespace FrontW
open Go.RowKit Go.Lib B Rd StoreW Clones FrontP
theorem dall_calls (g:Nat) (w:World) (A:Option Addr) (n c:Nat) (h:w.cell? ⟨g,0,none⟩ = some (.slice A n c)) :
  Calls Tryz.prog 111 #[.pointer (some ⟨g,0,none⟩)] w fun e w'=>e = .returned (.slice A n c)∧w = w':=by
 go_enter Tryz.func111,Tryz.ntmps111
 go_wp2
 go_ret
 exact ⟨rfl,rfl⟩
theorem dlen_calls (l:List (List UInt8)) (g:Nat) (w:World) (ok:Nat → Prop) (h:DictAt w ok g l) :
  Calls Tryz.prog 69 #[.pointer (some ⟨g,0,none⟩)] w fun e w'=>e = .returned (.int .i64 (l.length:Nat))∧w = w':=by
 obtain ⟨A,c,hg,_⟩:=h
 have HC:=Zz (dall_calls g w A l.length c hg)
 go_enter Tryz.func69,Tryz.ntmps69
 go_wp2_with fail
 refine HC.o.mono ?_
 rintro e w2 ⟨rfl,rfl⟩
 go_wp2
 go_ret
 exact ⟨rfl,rfl⟩
theorem extract_calls (l:List (List UInt8)) (n:Nat) (hn:n ≤ 1000000000) (hl:l.length ≤ 1000000) (g:Nat) (w:World) (ok:Nat → Prop) (h:DictAt w ok g l) :
  Calls Tryz.prog 114 #[.pointer (some ⟨g,0,none⟩),.int .i64 n] w fun e w'=>e = .returned (.string (mkS (if 1 ≤ n then l.getD (n - 1) [] else [])))∧w = w':=by
 have HL:=Zz (dlen_calls l g w ok h)
 obtain ⟨A,c,hg,hM⟩:=h
 have HRow:=Zz (fun hp=>str_cells hM hp)
 have hnil:mkS [] = (⟨#[]⟩:ByteArray):=rfl
 clear hM
 by_cases h1:n < 1
 ·
  have d1:decide ((n:Int) < 1) = true:=dT (by omega)
  have HR:Hid ((if 1 ≤ n then l.getD (n - 1) [] else []) = []):=Zz (if_neg (by omega))
  rw [HR.o]
  go_enter Tryz.func114,Tryz.ntmps114
  go_wp2
  go_ret
  exact ⟨rfl,rfl⟩
 have d1:decide ((n:Int) < 1) = false:=dF (by omega)
 by_cases h2:l.length < n
 ·
  have d2:decide ((l.length:Int) < (n:Int)) = true:=dT (by omega)
  have HR:Hid ((if 1 ≤ n then l.getD (n - 1) [] else []) = []):=Zz (by
   rw [if_pos (by omega),List.getD_eq_getElem?_getD,List.getElem?_eq_none (by omega)]
   rfl)
  rw [HR.o]
  go_enter Tryz.func114,Tryz.ntmps114
  go_wp2_with fail
  refine HL.o.mono ?_
  rintro e w2 ⟨rfl,rfl⟩
  go_wp2
  go_ret
  exact ⟨rfl,rfl⟩
 have d2:decide ((l.length:Int) < (n:Int)) = false:=dF (by omega)
 obtain ⟨j,hj⟩:∃ j,j = n - 1:=⟨_,rfl⟩
 have hjl:j < l.length:=by omega
 have HR:Hid ((if 1 ≤ n then l.getD (n - 1) [] else []) = l[j]):=Zz (by
  rw [if_pos (by omega),← hj,List.getD_eq_getElem?_getD,List.getElem?_eq_getElem hjl]
  rfl)
 rw [HR.o]
 have hw1:IntKind.i64.wrap ((n:Int) - 1) = (j:Int):=by rw [IntKind.wrap_i64];omega
 have ij:(j:Int) < (l.length:Int):=by omega
 obtain ⟨b,off,rfl,_,_,hcells⟩:=HRow.o (by omega)
 have hc:=hcells j hjl
 generalize l[j] = x at *
 clear hcells hj
 go_enter Tryz.func114,Tryz.ntmps114
 go_wp2_with fail
 refine HL.o.mono ?_
 rintro e w2 ⟨rfl,rfl⟩
 go_wp2
 go_ret
 exact ⟨rfl,rfl⟩
end FrontW
namespace ShownW
open Go.RowKit Go.Lib B Rd TermPure LinesPure Tri Env StoreP
def headA:List UInt8:=[60,97,62,32,60,97,62,32]
def tA:Term:=⟨1,[97],[]⟩
theorem line_of {t:Term} (h:is t = true):lineOf false (headA ++ shown t ++ [32,46]) = some (some ⟨tA,tA,t⟩):=by
 have ht:isTriple ⟨tA,tA,t⟩ = true:=by
  unfold isTriple
  have ha:is tA = true:=by decide +kernel
  simp only [ha,h]
  rfl
 have:=Round.lineOf_shown ht
 unfold Round.lineT at this
 have e:shown tA = [60,97,62]:=by decide +kernel
 simp only [e] at this
 simpa [headA] using this
theorem line_some (x:List UInt8):lineOf false (60 :: x) ≠ some none:=by
 unfold lineOf
 intro h
 split at h
 ·
  cases h
 ·
  split at h
  ·
   rename_i h2
   have hb:blanks (60 :: x) = 60 :: x:=by
    exact List.dropWhile_cons_of_neg (by decide)
   rw [hb] at h2
   simp [over] at h2
  ·
   repeat' split at h
   all_goals cases h
def pickT (s:List UInt8):Option (Option Triple) → Option Term
 | some (some tr)=>if shown tr.o = s then some tr.o else none
 | _=>none
def byLine (s:List UInt8):Option Term:=pickT s (lineOf false (headA ++ s ++ [32,46]))
theorem byLine_eq (s:List UInt8):byLine s = pickT s (lineOf false (headA ++ s ++ [32,46])):=by rw [byLine]
theorem byLine_is (s:List UInt8):TermIs s (byLine s):=fun t=>by
 constructor
 ·
  intro h
  unfold byLine at h
  cases hl:lineOf false (headA ++ s ++ [32,46]) with
  | none=>rw [hl] at h;cases h
  | some o =>
   cases o with
   | none=>rw [hl] at h;cases h
   | some tr =>
    rw [hl] at h
    rw [pickT] at h
    by_cases hs:shown tr.o = s
    ·
     rw [if_pos hs] at h
     injection h with h
     rw [← h]
     exact ⟨(ParseP.isT_parts (ParseP.lineOf_is hl)).2.2,hs⟩
    ·
     rw [if_neg hs] at h
     cases h
 ·
  rintro ⟨h1,rfl⟩
  unfold byLine
  rw [line_of h1,pickT,if_pos rfl]
theorem shown_calls (s:List UInt8) (hs:s.length ≤ 1000) (w:World) (he:Env w) :
  Calls Tryz.prog 113 #[.string (mkS s)] w fun e w'=>(∃ r,TermIs s r∧match r with
   | some t=>e = .returned (.tuple #[Ref5.termV t,.bool true])
   | none=>∃ t,e = .returned (.tuple #[Ref5.termV t,.bool false]))∧Below w.heap.size w w':=by
 have HI:=Zz (byLine_is s)
 have HB:=Zz (byLine_eq s)
 have HNo:=Zz (line_some ([97,62,32,60,97,62,32] ++ s ++ [32,46]))
 obtain ⟨X,hX⟩:∃ X,X = headA ++ s ++ [32,46]:=⟨_,rfl⟩
 have hXl:X.length ≤ 1010:=by rw [hX];simp [headA];omega
 obtain ⟨Y,hY⟩:∃ Y,Y = headA ++ s:=⟨_,rfl⟩
 have hYl:Y.length ≤ 1008:=by rw [hY];simp [headA];omega
 have hc1:(⟨#[60,97,62,32,60,97,62,32]⟩:ByteArray) ++ mkS s = mkS Y:=by
  rw [show (⟨#[60,97,62,32,60,97,62,32]⟩:ByteArray) = mkS headA from rfl,mkS_append,hY]
 have hc2:mkS Y ++ (⟨#[32,46]⟩:ByteArray) = mkS X:=by
  rw [show (⟨#[32,46]⟩:ByteArray) = mkS [32,46] from rfl,mkS_append,hX,hY]
 have zs:=mkS_size s
 have zY:=mkS_size Y
 have zX:=mkS_size X
 have h8:(⟨#[60,97,62,32,60,97,62,32]⟩:ByteArray).size = 8:=rfl
 have h2:(⟨#[32,46]⟩:ByteArray).size = 2:=rfl
 rw [show (60 :: ([97,62,32,60,97,62,32] ++ s ++ [32,46])) = X by rw [hX,headA];simp only [List.cons_append]] at HNo
 rw [← hX] at HB
 have hb0:Below w.heap.size w (w.alloc (.cells #[.int .i64 0,.string ⟨#[]⟩,.string ⟨#[]⟩] 24)):=bel_alloc (bR _ _) _
 have HOne:=Zz (Prg.one_calls X (by omega) _ (he.below hb0))
 have HB0:=Zz hb0
 clear hX hY hb0 he
 go_enter Tryz.func113,Tryz.ntmps113
 go_wp2_with fail
 refine HOne.o.mono ?_
 rintro e w2 ⟨⟨rfl,hfit⟩,hb⟩
 have HB2:=Zz (bel_step HB0.o hb)
 have hz2:w.heap.size < w2.heap.size:=Nat.lt_of_lt_of_le (by simp) hb.size
 have HC0:Hid (∀ W,Below (w.alloc (.cells #[.int .i64 0,.string ⟨#[]⟩,.string ⟨#[]⟩] 24)).heap.size (w.alloc (.cells #[.int .i64 0,.string ⟨#[]⟩,.string ⟨#[]⟩] 24)) W → W.cell? ⟨w.heap.size,0,none⟩ = some (.int .i64 0)∧W.cell? ⟨w.heap.size,1,none⟩ = some (.string ⟨#[]⟩)∧W.cell? ⟨w.heap.size,2,none⟩ = some (.string ⟨#[]⟩)∧∀ j,W.frozen? ⟨w.heap.size,j,none⟩ = false):=Zz (fun W hb=>by
  have hlt:w.heap.size < (w.alloc (.cells #[.int .i64 0,.string ⟨#[]⟩,.string ⟨#[]⟩] 24)).heap.size:=by simp
  refine ⟨(hb.cell (p:=⟨w.heap.size,0,none⟩) hlt).trans ?_,(hb.cell (p:=⟨w.heap.size,1,none⟩) hlt).trans ?_,(hb.cell (p:=⟨w.heap.size,2,none⟩) hlt).trans ?_,fun j=>(hb.frozen (p:=⟨w.heap.size,j,none⟩) hlt).trans ?_⟩
  ·
   rw [World.cell?,Kd.heap_new];rfl
  ·
   rw [World.cell?,Kd.heap_new];rfl
  ·
   rw [World.cell?,Kd.heap_new];rfl
  ·
   unfold World.frozen?
   dsimp only
   rw [Kd.heap_new]
   rfl)
 have HBa:=Zz hb
 clear hb HOne
 cases hl:lineOf false X with
 | none =>
  have HPick:Hid (byLine s = none):=Zz (by rw [HB.o,hl];rfl)
  have hone:Ref5.oneV none = .tuple #[Ref5.tripleV Ref5.zeroTr,.bool false,.bool false]:=rfl
  rw [hone]
  obtain ⟨tr,htr⟩:∃ tr,tr = Ref5.zeroTr:=⟨_,rfl⟩
  rw [← htr]
  clear hone htr
  have hbx:=fun p=>Print.box9 w2 tr p
  have hbel3:=bel_alloc (bR w2.heap.size w2) (.cells #[.int .i64 tr.s.kind,.string (mkS tr.s.text),.string (mkS tr.s.extra),.int .i64 tr.p.kind,.string (mkS tr.p.text),.string (mkS tr.p.extra),.int .i64 tr.o.kind,.string (mkS tr.o.text),.string (mkS tr.o.extra)] 36)
  obtain ⟨w3,hw3⟩:∃ w3,w3 = w2.alloc (.cells #[.int .i64 tr.s.kind,.string (mkS tr.s.text),.string (mkS tr.s.extra),.int .i64 tr.p.kind,.string (mkS tr.p.text),.string (mkS tr.p.extra),.int .i64 tr.o.kind,.string (mkS tr.o.text),.string (mkS tr.o.extra)] 36):=⟨_,rfl⟩
  rw [← hw3] at hbel3 hbx
  have HWX:=Zz hw3.symm
  have HB3:=Zz hbel3
  have g6:=fun p:QT.Bel w3=>(hbx p).2.2.2.2.2.2.1
  have g7:=fun p:QT.Bel w3=>(hbx p).2.2.2.2.2.2.2.1
  have g8:=fun p:QT.Bel w3=>(hbx p).2.2.2.2.2.2.2.2
  clear hw3 hbel3 hbx hl HB hfit
  unfold Ref5.tripleV
  obtain ⟨⟨sk,sx,se⟩,⟨pk,px,pe⟩,⟨ok,ox,oe⟩⟩:=tr
  dsimp only at g6 g7 g8 HWX
  dsimp only
  go_upto_region 2 with fail
  rw [HWX.o]
  clear HWX
  have HC3:Hid (∀ W,Below w3.heap.size w3 W → W.cell? ⟨w.heap.size,0,none⟩ = some (.int .i64 0)∧W.cell? ⟨w.heap.size,1,none⟩ = some (.string ⟨#[]⟩)∧W.cell? ⟨w.heap.size,2,none⟩ = some (.string ⟨#[]⟩)∧∀ j,W.frozen? ⟨w.heap.size,j,none⟩ = false):=Zz (fun W hb=>HC0.o W (bel_step (bel_step HBa.o HB3.o) hb))
  have HS3:Hid (∀ W,Below w3.heap.size w3 W → W.cell? ⟨w2.heap.size,6,none⟩ = some (.int .i64 ok)∧W.cell? ⟨w2.heap.size,7,none⟩ = some (.string (mkS ox))∧W.cell? ⟨w2.heap.size,8,none⟩ = some (.string (mkS oe))):=Zz (fun W hb=>⟨g6 ⟨W,hb⟩,g7 ⟨W,hb⟩,g8 ⟨W,hb⟩⟩)
  clear g6 g7 g8
  have hn1:∀ i j,(⟨w2.heap.size,i,none⟩:Addr) ≠ ⟨w.heap.size,j,none⟩:=fun i j e=>by injection e;omega
  have hn2:∀ i j,(⟨w.heap.size,j,none⟩:Addr) ≠ ⟨w2.heap.size,i,none⟩:=fun i j e=>by injection e;omega
  have hcur:=bR w3.heap.size w3
  obtain ⟨k0,k1,k2,kf⟩:=HC3.o w3 hcur
  have kf0:=kf 0
  have kf1:=kf 1
  have kf2:=kf 2
  clear kf
  refine HeldZ.region (fun W=>W.cell? ⟨w2.heap.size,6,none⟩ = some (Value.int .i64 ok)∧W.cell? ⟨w2.heap.size,7,none⟩ = some (Value.string (mkS ox))∧W.cell? ⟨w2.heap.size,8,none⟩ = some (Value.string (mkS oe))) 11 12 #[false,false,false,false,false,false,false,false,false,false,false,false] (by kernel_rfl) rfl rfl ?_
  intro hinv
  have hS:=HS3.o w3.drew (bel_drew hcur)
  try dsimp only at hS
  refine HeldZ.tk 0 hinv hS ?_
  clear hinv
  intro hinv
  try simp only [List.getElem_toArray,List.getElem_cons_zero,List.getElem_cons_succ,Act.put,HeldZ.sm] at hinv ⊢
  refine HeldZ.tk 1 hinv hS ?_
  clear hinv
  intro hinv
  try simp only [List.getElem_toArray,List.getElem_cons_zero,List.getElem_cons_succ,Act.put,HeldZ.sm] at hinv ⊢
  refine HeldZ.tk 2 hinv hS ?_
  clear hinv
  intro hinv
  try simp only [List.getElem_toArray,List.getElem_cons_zero,List.getElem_cons_succ,Act.put,HeldZ.sm] at hinv ⊢
  refine HeldZ.tk 3 hinv hS ?_
  clear hinv
  intro hinv
  try simp only [List.getElem_toArray,List.getElem_cons_zero,List.getElem_cons_succ,Act.put,HeldZ.sm] at hinv ⊢
  refine HeldZ.take (v:=undef) 4 hinv rfl (by kernel_rfl) (by kernel_rfl) (by decide) (by decide) (by kernel_rfl) (by kernel_rfl) (by kernel_rfl) (fun _ _ _ h=>h) hS (Or.inr ⟨by rfl,rfl⟩) ?_
  clear hinv
  intro hinv
  try simp only [List.getElem_toArray,List.getElem_cons_zero,List.getElem_cons_succ,Act.put,HeldZ.sm] at hinv ⊢
  refine HeldZ.take (v:=undef) 5 hinv rfl (by kernel_rfl) (by kernel_rfl) (by decide) (by decide) (by kernel_rfl) (by kernel_rfl) (by kernel_rfl) (fun _ _ _ h=>h) hS (Or.inr ⟨by rfl,rfl⟩) ?_
  clear hinv
  intro hinv
  try simp only [List.getElem_toArray,List.getElem_cons_zero,List.getElem_cons_succ,Act.put,HeldZ.sm] at hinv ⊢
  refine HeldZ.take (v:=undef) 6 hinv rfl (by kernel_rfl) (by kernel_rfl) (by decide) (by decide) (by kernel_rfl) (by kernel_rfl) (by kernel_rfl) (fun _ _ _ h=>h) hS (Or.inr ⟨by rfl,rfl⟩) ?_
  clear hinv
  intro hinv
  try simp only [List.getElem_toArray,List.getElem_cons_zero,List.getElem_cons_succ,Act.put,HeldZ.sm] at hinv ⊢
  refine HeldZ.take (v:=undef) 7 hinv rfl (by kernel_rfl) (by kernel_rfl) (by decide) (by decide) (by kernel_rfl) (by kernel_rfl) (by kernel_rfl) (fun _ _ _ h=>h) hS (Or.inr ⟨by rfl,rfl⟩) ?_
  clear hinv
  intro hinv
  try simp only [List.getElem_toArray,List.getElem_cons_zero,List.getElem_cons_succ,Act.put,HeldZ.sm] at hinv ⊢
  refine HeldZ.take (v:=undef) 8 hinv rfl (by kernel_rfl) (by kernel_rfl) (by decide) (by decide) (by kernel_rfl) (by kernel_rfl) (by kernel_rfl) (fun _ _ _ h=>h) hS (Or.inr ⟨by rfl,rfl⟩) ?_
  clear hinv
  intro hinv
  try simp only [List.getElem_toArray,List.getElem_cons_zero,List.getElem_cons_succ,Act.put,HeldZ.sm] at hinv ⊢
  refine HeldZ.tk 9 hinv hS ?_
  clear hinv
  intro hinv
  try simp only [List.getElem_toArray,List.getElem_cons_zero,List.getElem_cons_succ,Act.put,HeldZ.sm] at hinv ⊢
  refine HeldZ.ow 10 hinv ?_
  clear hinv
  intro hinv K hK
  go_simp
  refine hK _ _ (fun _=>?hst) ?_
  case hst =>
   obtain ⟨s6,s7,s8⟩:=hS
   refine ⟨?_,?_,?_⟩
   ·
    iterate 3 (first | (refine (World.cell?_setCell_other _ _ _ _ (hn1 _ _)).trans ?_) | (refine (World.cell?_setCell_other _ _ _ _ (hn2 _ _)).trans ?_))
    exact s6
   ·
    iterate 3 (first | (refine (World.cell?_setCell_other _ _ _ _ (hn1 _ _)).trans ?_) | (refine (World.cell?_setCell_other _ _ _ _ (hn2 _ _)).trans ?_))
    exact s7
   ·
    iterate 3 (first | (refine (World.cell?_setCell_other _ _ _ _ (hn1 _ _)).trans ?_) | (refine (World.cell?_setCell_other _ _ _ _ (hn2 _ _)).trans ?_))
    exact s8
  clear hK K
  try simp only [List.getElem_toArray,List.getElem_cons_zero,List.getElem_cons_succ,Act.put,HeldZ.sm] at hinv ⊢
  refine HeldZ.oneW 11 hinv (by kernel_rfl) rfl (by rfl) ?_
  clear hinv
  intro _ K hK
  go_simp
  refine hK _ _ (fun h=>absurd rfl h) ?_
  refine HeldZ.done (by kernel_rfl) ?_ _
  clear hK K hS
  all_goals (
   have HB5:=Zz (bel_step HB2.o (bel_step HB3.o hcur))
   obtain ⟨w6,hw6⟩:∃ w6,w6 = ((w3.setCell ⟨w.heap.size,0,none⟩ (.int .i64 ok)).setCell ⟨w.heap.size,1,none⟩ (.string (mkS ox))).setCell ⟨w.heap.size,2,none⟩ (.string (mkS oe)):=⟨_,rfl⟩
   have e0:w6.cell? ⟨w.heap.size,0,none⟩ = some (.int .i64 ok):=by
    rw [hw6,World.cell?_setCell_other _ _ _ _ (by simp),World.cell?_setCell_other _ _ _ _ (by simp)]
    exact World.cell?_setCell_same _ _ _ k0
   have e1:w6.cell? ⟨w.heap.size,1,none⟩ = some (.string (mkS ox)):=by
    rw [hw6,World.cell?_setCell_other _ _ _ _ (by simp)]
    exact World.cell?_setCell_same _ _ _ ((World.cell?_setCell_other _ _ _ _ (by simp)).trans k1)
   have e2:w6.cell? ⟨w.heap.size,2,none⟩ = some (.string (mkS oe)):=by
    rw [hw6]
    exact World.cell?_setCell_same _ _ _ ((World.cell?_setCell_other _ _ _ _ (by simp)).trans ((World.cell?_setCell_other _ _ _ _ (by simp)).trans k2))
   have HB6:Hid (Below w.heap.size w w6):=Zz (by rw [hw6];exact bel_set (bel_set (bel_set HB5.o (lR _) _) (lR _) _) (lR _) _)
   rw [← hw6]
   clear hw6 k0 k1 k2 kf0 kf1 kf2 hcur
   go_wp2
   refine bodyPost_ret (v:=.tuple #[.agg #[.int .i64 ok,.string (mkS ox),.string (mkS oe)],.bool false]) (by simp [results,Tryz.results113,go_sem,e0,e1,e2]) rfl ?_
   exact ⟨⟨none,(by have h:=HI.o;rw [HPick.o] at h;exact h),⟨ok,ox,oe⟩,rfl⟩,by first | exact bel_drew HB6.o | exact HB6.o⟩)
 | some o =>
  cases o with
  | none=>exact absurd hl HNo.o
  | some tr =>
   have hti:=ParseP.lineOf_is hl
   have hoi:=(ParseP.isT_parts hti).2.2
   have HPick:Hid (byLine s = if shown tr.o = s then some tr.o else none):=Zz (by rw [HB.o,hl,pickT])
   have hsmall:=ParseP.is_small hoi
   have HSh:=Zz (fun W=>Show.show_calls tr.o (by omega) (by omega) W)
   have hbx:=fun p=>Print.box9 w2 tr p
   obtain ⟨S1,hS1⟩:∃ S1,S1 = shown tr.o:=⟨_,rfl⟩
   rw [← hS1] at HSh HPick
   have hbel3:=bel_alloc (bR w2.heap.size w2) (.cells #[.int .i64 tr.s.kind,.string (mkS tr.s.text),.string (mkS tr.s.extra),.int .i64 tr.p.kind,.string (mkS tr.p.text),.string (mkS tr.p.extra),.int .i64 tr.o.kind,.string (mkS tr.o.text),.string (mkS tr.o.extra)] 36)
   obtain ⟨w3,hw3⟩:∃ w3,w3 = w2.alloc (.cells #[.int .i64 tr.s.kind,.string (mkS tr.s.text),.string (mkS tr.s.extra),.int .i64 tr.p.kind,.string (mkS tr.p.text),.string (mkS tr.p.extra),.int .i64 tr.o.kind,.string (mkS tr.o.text),.string (mkS tr.o.extra)] 36):=⟨_,rfl⟩
   rw [← hw3] at hbel3 hbx
   have HWX:=Zz hw3.symm
   have HB3:=Zz hbel3
   have g6:=fun p:QT.Bel w3=>(hbx p).2.2.2.2.2.2.1
   have g7:=fun p:QT.Bel w3=>(hbx p).2.2.2.2.2.2.2.1
   have g8:=fun p:QT.Bel w3=>(hbx p).2.2.2.2.2.2.2.2
   have HShp:=Zz (fun p:QT.Bel w3=>HSh.o p.w)
   have tS:=mkS_toList S1
   have ts:=mkS_toList s
   have h4:=Cmp.beq_eq S1 s
   have h5:(S1 == s) = decide (S1 = s):=by
    by_cases h:S1 = s
    ·
     subst h;simp
    ·
     simp [h]
   have HZ:Hid (∀ z,z = decide (S1 = s) → (z = true → byLine s = some tr.o)∧(z = false → byLine s = none)):=Zz (fun z hz=>⟨fun h=>by rw [HPick.o,if_pos (of_decide_eq_true (hz.symm.trans h))],fun h=>by rw [HPick.o,if_neg (of_decide_eq_false (hz.symm.trans h))]⟩)
   obtain ⟨z,hz⟩:∃ z,z = decide (S1 = s):=⟨_,rfl⟩
   have HZz:=Zz (HZ.o z hz)
   rw [← hz] at h4 h5
   clear hw3 hbel3 hbx hl hti hoi hsmall HSh HB HZ hz hS1 HPick hfit
   unfold Ref5.oneV Ref5.tripleV
   obtain ⟨⟨sk,sx,se⟩,⟨pk,px,pe⟩,⟨ok,ox,oe⟩⟩:=tr
   unfold Ref5.termV at HShp
   dsimp only at g6 g7 g8 HShp HWX HZz
   dsimp only
   go_upto_region 2 with fail
   rw [HWX.o]
   clear HWX
   have HC3:Hid (∀ W,Below w3.heap.size w3 W → W.cell? ⟨w.heap.size,0,none⟩ = some (.int .i64 0)∧W.cell? ⟨w.heap.size,1,none⟩ = some (.string ⟨#[]⟩)∧W.cell? ⟨w.heap.size,2,none⟩ = some (.string ⟨#[]⟩)∧∀ j,W.frozen? ⟨w.heap.size,j,none⟩ = false):=Zz (fun W hb=>HC0.o W (bel_step (bel_step HBa.o HB3.o) hb))
   have HS3:Hid (∀ W,Below w3.heap.size w3 W → W.cell? ⟨w2.heap.size,6,none⟩ = some (.int .i64 ok)∧W.cell? ⟨w2.heap.size,7,none⟩ = some (.string (mkS ox))∧W.cell? ⟨w2.heap.size,8,none⟩ = some (.string (mkS oe))):=Zz (fun W hb=>⟨g6 ⟨W,hb⟩,g7 ⟨W,hb⟩,g8 ⟨W,hb⟩⟩)
   have HSc:=Zz (fun W (hb:Below w3.heap.size w3 W)=>HShp.o ⟨W,hb⟩)
   clear HShp g6 g7 g8
   have hn1:∀ i j,(⟨w2.heap.size,i,none⟩:Addr) ≠ ⟨w.heap.size,j,none⟩:=fun i j e=>by injection e;omega
   have hn2:∀ i j,(⟨w.heap.size,j,none⟩:Addr) ≠ ⟨w2.heap.size,i,none⟩:=fun i j e=>by injection e;omega
   have hcur:=bR w3.heap.size w3
   obtain ⟨k0,k1,k2,kf⟩:=HC3.o w3 hcur
   have kf0:=kf 0
   have kf1:=kf 1
   have kf2:=kf 2
   clear kf
   go_region_held3 (fun W=>W.cell? ⟨w2.heap.size,6,none⟩ = some (Value.int .i64 ok)∧W.cell? ⟨w2.heap.size,7,none⟩ = some (Value.string (mkS ox))∧W.cell? ⟨w2.heap.size,8,none⟩ = some (Value.string (mkS oe)))
    (first | (obtain ⟨s6,s7,s8⟩:=HS3.o _ hcur;refine ⟨?_,?_,?_⟩;(iterate 3 (first | (refine (World.cell?_setCell_other _ _ _ _ (hn1 _ _)).trans ?_) | (refine (World.cell?_setCell_other _ _ _ _ (hn2 _ _)).trans ?_)));exact s6;(iterate 3 (first | (refine (World.cell?_setCell_other _ _ _ _ (hn1 _ _)).trans ?_) | (refine (World.cell?_setCell_other _ _ _ _ (hn2 _ _)).trans ?_)));exact s7;(iterate 3 (first | (refine (World.cell?_setCell_other _ _ _ _ (hn1 _ _)).trans ?_) | (refine (World.cell?_setCell_other _ _ _ _ (hn2 _ _)).trans ?_)));exact s8) | exact HS3.o _ (by repeat (first | assumption | exact bR _ _ | refine bel_drew ?_)))
    (first
     | (go_at_call 56;refine (HSc.o _ ?bl).mono ?_;go_loud (case bl=>repeat (first | assumption | exact bR _ _ | refine bel_drew ?_));rintro e w5 ⟨rfl,hbc⟩;have hcur:Below w3.heap.size w3 w5:=bel_step (by repeat (first | assumption | exact bR _ _ | refine bel_drew ?_)) hbc;obtain ⟨k0,k1,k2,kf⟩:=HC3.o w5 hcur;have kf0:=kf 0;have kf1:=kf 1;have kf2:=kf 2;clear kf)
     | fail)
   all_goals (
    have HB5:=Zz (bel_step HB2.o (bel_step HB3.o hcur))
    obtain ⟨w6,hw6⟩:∃ w6,w6 = ((w5.setCell ⟨w.heap.size,0,none⟩ (.int .i64 ok)).setCell ⟨w.heap.size,1,none⟩ (.string (mkS ox))).setCell ⟨w.heap.size,2,none⟩ (.string (mkS oe)):=⟨_,rfl⟩
    have e0:w6.cell? ⟨w.heap.size,0,none⟩ = some (.int .i64 ok):=by
     rw [hw6,World.cell?_setCell_other _ _ _ _ (by simp),World.cell?_setCell_other _ _ _ _ (by simp)]
     exact World.cell?_setCell_same _ _ _ k0
    have e1:w6.cell? ⟨w.heap.size,1,none⟩ = some (.string (mkS ox)):=by
     rw [hw6,World.cell?_setCell_other _ _ _ _ (by simp)]
     exact World.cell?_setCell_same _ _ _ ((World.cell?_setCell_other _ _ _ _ (by simp)).trans k1)
    have e2:w6.cell? ⟨w.heap.size,2,none⟩ = some (.string (mkS oe)):=by
     rw [hw6]
     exact World.cell?_setCell_same _ _ _ ((World.cell?_setCell_other _ _ _ _ (by simp)).trans ((World.cell?_setCell_other _ _ _ _ (by simp)).trans k2))
    have HB6:Hid (Below w.heap.size w w6):=Zz (by rw [hw6];exact bel_set (bel_set (bel_set HB5.o (lR _) _) (lR _) _) (lR _) _)
    rw [← hw6]
    clear hw6 k0 k1 k2 kf0 kf1 kf2 hcur
    go_wp2
    refine bodyPost_ret (v:=.tuple #[.agg #[.int .i64 ok,.string (mkS ox),.string (mkS oe)],.bool z]) (by simp [results,Tryz.results113,go_sem,e0,e1,e2]) rfl ?_
    cases z with
    | false=>exact ⟨⟨none,(by have h:=HI.o;rw [HZz.o.2 rfl] at h;exact h),⟨ok,ox,oe⟩,rfl⟩,HB6.o⟩
    | true=>exact ⟨⟨some ⟨ok,ox,oe⟩,(by have h:=HI.o;rw [HZz.o.1 rfl] at h;exact h),rfl⟩,HB6.o⟩)
end ShownW
namespace TripW
open Go.RowKit Go.Lib Go.Shelf B Rd TermPure LinesPure Tri SortP OrdG Env StoreP StoreW FrontW TripP TripC ChunkW
def num3 (I:List Ids) (x:Fin I.length):Nat → Nat
 | 0=>I[x.1].a
 | 1=>I[x.1].b
 | _=>I[x.1].c
theorem dict_below {w W:World} {g:Nat} {L:List (List UInt8)} (h:DictAt w (fun _=>True) g L) (hb:Below w.heap.size w W):DictAt W (fun _=>True) g L:=by
 obtain ⟨A',c',h1,h2⟩:=h
 exact ⟨A',c',(hb.cell (p:=⟨g,0,none⟩) (cell_lt h1)).trans h1,strK.sl.mono (ok':=fun _=>True) (fun _ _ _=>trivial) (Kd.M_below (Kd.M_bound h2) hb)⟩
theorem trip_calls (L:List (List UInt8)) (I:List Ids) (hI:I.length ≤ 100) (hL:L.length ≤ 300) (hs:∀ x ∈ L,x.length ≤ 1000) (hn:∀ n ∈ nums I,n ≤ 1000000) (g:Nat) (A:Option Addr) (c:Nat) (w:World) (he:Env w) (hd:DictAt w (fun _=>True) g L) (HL:intK.sl.M w (fun _=>True) (natZ (nums I)) [.slice A (nums I).length c]) :
  Calls Tryz.prog 70 #[.pointer (some ⟨g,0,none⟩),.slice A (nums I).length c] w fun e w'=>((∃ v,(∀ T,Valid T → ¬ Makes L I T)∧e = .returned (.tuple #[v,.bool false])) ∨
   ∃ T A' c',Makes L I T∧Valid T∧e = .returned (.tuple #[.slice A' T.length c',.bool true])∧triK.sl.M w' (fun _=>True) T [.slice A' T.length c'])∧Below w.heap.size w w':=by
 have hlen:=nums_len I
 have hmem:∀ (x:Fin I.length) j,j < 3 → (nums I)[3 * x.1 + j]? = some (num3 I x j):=fun x j hj=>by
  obtain ⟨h1,h2,h3⟩:=RefTrip.nums_at I x.1 x.2
  obtain rfl | rfl | rfl:j = 0 ∨ j = 1 ∨ j = 2:=by omega
  ·
   exact h1
  ·
   exact h2
  ·
   exact h3
 obtain ⟨b,off,hA,hcells⟩:∃ b off,(0 < I.length → A = some ⟨b,off,none⟩)∧∀ (x:Fin I.length) j,j < 3 → ∀ W,Below w.heap.size w W → W.cell? ⟨b,off + 3 * x.1 + j,none⟩ = some (.int .i64 (num3 I x j:Nat)):=by
  by_cases hp:0 < I.length
  ·
   obtain ⟨b,off,hAe,_,hbs,hc⟩:=PackW.int_cells HL (by rw [hlen];omega)
   refine ⟨b,off,fun _=>hAe,fun x j hj W hW=>?_⟩
   obtain ⟨h1,h2⟩:=List.getElem?_eq_some_iff.1 (hmem x j hj)
   have h3:=(hW.cell (p:=⟨b,off + (3 * x.1 + j),none⟩) hbs).trans (hc (3 * x.1 + j) h1)
   rw [h2] at h3
   rw [show off + 3 * x.1 + j = off + (3 * x.1 + j) by omega]
   exact h3
  ·
   exact ⟨0,0,fun h=>absurd h hp,fun x=>absurd x.2 (by omega)⟩
 obtain ⟨A',c',hv,h1,h2,_⟩:=id HL
 have hlz:(natZ (nums I)).length = (nums I).length:=by unfold natZ;simp
 have hcap:(nums I).length ≤ c∧c ≤ maxLen:=by
  have e:A = A'∧(nums I).length = (natZ (nums I)).length∧c = c':=by simpa using hv
  obtain ⟨_,_,rfl⟩:=e
  rw [hlz] at h1
  exact ⟨h1,h2.2⟩
 have HK:=trip_core (∀ T,Valid T → ¬ Makes L I T) I.length (Part L I) (fun n t=>At1 L n t) (fun n=>TermIs (textOf L n) none) (textOf L) (fun x j=>if j < 3 then num3 I x j else 0) g (nums I).length c b off A w hA
  (by rw [hlen];omega) (by rw [hlen];omega) hI hcap.1 hcap.2 (Part.nil L I)
  (fun pre x T t0 t1 t2 hP h0 h1 h2=>hP.snoc (by simpa [num3] using h0) (by simpa [num3] using h1) (by simpa [num3] using h2))
  (fun pre T hP=>hP.len)
  (fun x j=>by
   by_cases hj:j < 3
   ·
    rw [if_pos hj]
    exact hn _ (List.mem_of_getElem? (hmem x j hj))
   ·
    rw [if_neg hj];omega)
  (fun n t h=>by have:=ParseP.is_small h.1;unfold FitsW;omega)
  (fun x j hj hB=>by
   rw [if_pos hj] at hB
   intro T _
   refine none_makes x.2 (n:=num3 I x j) ?_ hB T
   obtain rfl | rfl | rfl:j = 0 ∨ j = 1 ∨ j = 2:=by omega
   ·
    exact .inl rfl
   ·
    exact .inr (.inl rfl)
   ·
    exact .inr (.inr rfl))
  (fun x j hj W hW=>by rw [if_pos hj];exact hcells x j hj W hW)
  (fun q hq W hW=>FrontW.extract_calls L q (by omega) (by omega) g W _ (dict_below hd hW))
  (fun q W hW=>(ShownW.shown_calls (textOf L q) (text_len hs q) W (he.below hW)).mono (by
   rintro e w' ⟨⟨r,hr,hm⟩,hb⟩
   cases r with
   | none =>
    obtain ⟨t,ht⟩:=hm
    exact ⟨.inr ⟨hr,t,ht⟩,hb⟩
   | some t=>exact ⟨.inl ⟨t,at1_of_text hr,hm⟩,hb⟩))
  (fun T hP A' c' W hW hM=>contains_calls T (by rw [hP.len];simp;omega) hP.is A' c' W (he.below hW) hM)
 refine HK.mono ?_
 rintro e w' ⟨⟨hno,v,rfl⟩ | ⟨T,A',c',hP,rfl,hM⟩,hb⟩
 ·
  exact ⟨.inl ⟨v,hno,rfl⟩,hb⟩
 ·
  have hMk:=hP.makes
  cases hv:T.all isTriple with
  | true=>exact ⟨.inr ⟨T,A',c',hMk,fun x hx=>List.all_eq_true.1 hv x hx,rfl,hM⟩,hb⟩
  | false=>exact ⟨.inl ⟨_,makes_all hMk hv,rfl⟩,hb⟩
end TripW
namespace BoxUnpack
open Go.RowKit CrcPure BoxPure B CrcWalk CrcLaws BoxWalk BoxPack BoxRef
def UnpackPost (b:List UInt8) (w:World) (e:Ending) (w':World):Prop:=
 Below w.heap.size w w'∧∃ r:Option (List Sec),Reads b r∧match r with
  | none=>e = .returned (.tuple #[.slice none 0 0,.int .i64 2])
  | some l=>∃ v,e = .returned (.tuple #[v,.int .i64 0])∧secK.own 82 w' w.heap.size (fun k=>w.heap.size ≤ k) v l
theorem info_sec:(Tryz.prog.info? 82).map (fun i=>(i.zero,i.size,i.bytes)) = some (some (.agg #[.int .i64 0,.slice none 0 0]),2,32):=by kernel_rfl
theorem cellsB:Tryz.prog.cellsOf 5 = 1:=by kernel_rfl
theorem secs_step (n:Nat) (h b:List UInt8) (hb:num (h.drop 1) ≤ b.length):secs (n + 1) h b = (secs n (h.drop 7) (b.drop (num (h.drop 1)))).map fun l=>(((h.getD 0 0).toNat:Int),b.take (num (h.drop 1))) :: l:=by
 rw [secs,if_neg (by omega)]
theorem secs_stop (n:Nat) (h b:List UInt8) (hb:b.length < num (h.drop 1)):secs (n + 1) h b = none:=by
 rw [secs,if_pos hb]
theorem own_any {e:TypeId} {w:World} {base:Nat} {ok ok':Nat → Prop} {v:Value} {xs:List UInt8} (h:byteK.own e w base ok v xs):byteK.own e w base ok' v xs:=by
 obtain ⟨h0,cells,h1,h2⟩:=h
 exact ⟨h0,cells,h1,fun i x hx=>any_u8 _ _ _ _ _ (h2 i x hx)⟩
theorem sl_cut {w:World} {ok:Nat → Prop} {g o c j:Nat} {hs:List UInt8} (h1:hs.length ≤ c) (h2:hs.length ≤ 140737488355328∧c ≤ maxLen) (gr:byteK.row w ok (some ⟨g,o,none⟩) hs) :
  byteK.sl.M w ok (hs.drop j) [.slice (some ⟨g,o + j,none⟩) (hs.length - j) (c - j)]:=by
 have:=Kd.u8_sl (l:=hs.drop j) (c:=c - j) (A:=some ⟨g,o + j,none⟩) (by simp;omega) (by simp;omega) (fun h=>by cases h) (by
  have:=Kd.row_drop gr j
  rwa [show (some (⟨g,o,none⟩:Addr)).map (·.add (j * byteK.sz)) = some ⟨g,o + j,none⟩ from congrArg some ((Addr.add_lit g o (j * byteK.sz)).trans (by rw [show j * byteK.sz = j from Nat.mul_one j]))] at this)
 rwa [List.length_drop] at this
theorem sec_row {w2 W':World} {u7 v2:Value} {body:List UInt8} {n:Int} {base wc:Nat} (HT:byteK.own 5 w2 wc T v2 body) (h0:base ≤ wc) (hlt:∀ k,u7.ownBlock = some k → k < wc)
  (hwc:wc ≤ w2.heap.size) (hid:0 ≤ n∧n ≤ 255) (hb:Below w2.heap.size w2 W') (hC:Kd.bi W' w2.heap.size #[.int .i64 n,v2]) :
  secK.sl.M W' (fun k=>base ≤ k∧some k ≠ u7.ownBlock) [(n,body)] [.slice (some ⟨w2.heap.size,0,none⟩) 1 1]:=by
 have hM:byteK.sl.M W' (fun k=>base ≤ k∧some k ≠ u7.ownBlock) body [v2]:=
  Kd.own_sl (Kd.own_below (own_any (ok':=fun _=>False) HT) hb) (fun k hk=>⟨by omega,fun e=>by have:=hlt k e.symm;omega⟩) (fun k hk=>hk.elim)
 have hR:secK.row W' (fun k=>base ≤ k∧some k ≠ u7.ownBlock) (some ⟨w2.heap.size,0,none⟩) [(n,body)]:=
  Kd.row_one (d:=secK) hC ⟨by omega,fun e=>by have:=hlt _ e.symm;omega⟩ (show secK.M W' _ (n,body) [.int .i64 n,v2] from ⟨[.int .i64 n],[v2],rfl,⟨rfl,by dsimp only;omega⟩,hM⟩)
 exact ⟨_,1,rfl,by simp,⟨by simp,by simp [maxLen]⟩,(fun h=>by cases h),hR⟩
theorem unpack_calls (b:List UInt8) (v:Value) (w:World) (m:byteK.sl.M w T b [v]) :
  Calls Tryz.prog 66 #[v] w (UnpackPost b w):=by
 obtain ⟨A,c,hv,h1,h2,h3,hr0⟩:=m
 simp at hv
 subst hv
 have HR:=Zz (Kd.row_mono (ok':=fun k=>k < w.heap.size) (fun k _ hk=>hk) hr0)
 have HM:=Zz (Kd.u8_sl h1 h2 h3 hr0)
 clear hr0
 obtain ⟨hb47,h2'⟩:=h2
 have HC:=Zz h2'
 clear h2'
 by_cases c6:b.length < 6
 ·
  have q1:decide ((b.length:Int) < 6) = true:=dT (by omega)
  have HN:=Zz (reads_short (b:=b) (.inl (by omega)))
  go_enter Tryz.func66,Tryz.ntmps66
  go_wp2
  go_ret2
  exact ⟨bR _ _,none,HN.o,rfl⟩
 ·
  have q1:decide ((b.length:Int) < 6) = false:=dF (by omega)
  obtain ⟨ba,off,rfl,hcell⟩:=u8_plain HR.o (by omega)
  have hc5:=hcell 5 (by omega)
  have HG:Hid (b.getD 5 0 = b[5]):=Zz (getD_at b 5 (by omega))
  have hn5:=b[5].toNat_lt
  clear hcell
  have i5:(5:Int) < (b.length:Int):=by omega
  generalize hbn:b[5] = bn at *
  clear hbn
  by_cases cl:b.length < 9 + 7 * bn.toNat
  ·
   have q2:decide ((b.length:Int) < 6 + 7 * (bn.toNat:Int) + 3) = true:=dT (by omega)
   have HN:=Zz (reads_short (b:=b) (.inr (.inl (by rw [HG.o];exact cl))))
   go_enter Tryz.func66,Tryz.ntmps66
   go_wp2
   go_ret2
   exact ⟨bR _ _,none,HN.o,rfl⟩
  ·
   have q2:decide ((b.length:Int) < 6 + 7 * (bn.toNat:Int) + 3) = false:=dF (by omega)
   generalize hnn:bn.toNat = n at *
   obtain ⟨A1,-,hcu1,-,hrow1⟩:=Kd.cut_run (P:=Tryz.prog) byteK 55 5 Tryz.underlying55 cellsB (.int .u8 0) 1 info_u8 (some ⟨ba,off,none⟩) b.length c 6 b.length (by omega) (lR _) h1 ⟨hb47,HC.o⟩ h3
   obtain ⟨A2,-,hcu2,-,hrow2⟩:=Kd.cut_run (P:=Tryz.prog) byteK 55 5 Tryz.underlying55 cellsB (.int .u8 0) 1 info_u8 (some ⟨ba,off,none⟩) b.length c (9 + 7 * n) b.length (by omega) (lR _) h1 ⟨hb47,HC.o⟩ h3
   have hs1:∀ (kl:IntKind) (w:World),(Instr.slice 55 (.slice (some ⟨ba,off,none⟩) b.length c) (some (.int kl 6)) none none).run Tryz.prog w = .ok (.slice A1 (b.length - 6) (c - 6)) w:=fun kl w=>hcu1 kl w rfl
   have hs2:∀ (kl:IntKind) (w:World),(Instr.slice 55 (.slice (some ⟨ba,off,none⟩) b.length c) (some (.int kl (6 + 7 * (n:Int) + 3))) none none).run Tryz.prog w = .ok (.slice A2 (b.length - (9 + 7 * n)) (c - (9 + 7 * n))) w:=fun kl w=>by
    have:=hcu2 kl w rfl
    rw [show ((9 + 7 * n:Nat):Int) = 6 + 7 * (n:Int) + 3 by omega] at this
    exact this
   have HR1:=Zz (hrow1 w _ b rfl HR.o)
   have HR2:=Zz (hrow2 w _ b rfl HR.o)
   clear hcu1 hcu2 hrow1 hrow2
   have ww:IntKind.i64.wrap (7 * (n:Int)) = 7 * (n:Int):=by rw [IntKind.wrap_i64];omega
   have ww2:IntKind.i64.wrap (6 + 7 * (n:Int)) = 6 + 7 * (n:Int):=by rw [IntKind.wrap_i64];omega
   have ww3:IntKind.i64.wrap (6 + 7 * (n:Int) + 3) = 6 + 7 * (n:Int) + 3:=by rw [IntKind.wrap_i64];omega
   go_enter Tryz.func66,Tryz.ntmps66
   go_upto_region 6 with fail
   go_quiet (fail)
   go_wp2_with fail
   have HB0:=Zz (bel_drewN (bR w.heap.size w) nq)
   have HI0:Hid (secs n (b.drop 6) (b.drop (9 + 7 * n)) = (secs (n - 0) (b.drop 6) (b.drop (9 + 7 * n))).map ([] ++ ·)):=by
    refine Zz ?_
    simp
   have hl1:7 * (n - 0) + 3 ≤ (b.drop 6).length:=by simp;omega
   have hl2:(b.drop (9 + 7 * n)).length ≤ 140737488355328:=by simp;omega
   rw [List.take_length] at HR1 HR2
   rw [show b.length - 6 = (b.drop 6).length by simp] at *
   rw [show b.length - (9 + 7 * n) = (b.drop (9 + 7 * n)).length by simp] at *
   have HParse:Hid (parse b = secs n (b.drop 6) (b.drop (9 + 7 * n))):=by
    refine Zz ?_
    unfold parse
    rw [HG.o,hnn]
   have hn255:n ≤ 255:=by omega
   clear hs1 hs2 ww ww2 ww3 q1 q2 hc5 i5 hnn HG hn5 c6 cl
   generalize c - 6 = c1 at *
   generalize c - (9 + 7 * n) = c2 at *
   generalize hH:b.drop 6 = H0 at *
   generalize hB:b.drop (9 + 7 * n) = B0 at *
   clear hH hB
   go_loopw [5,6,7,34] (fun v5 v6 v7 vi wr=>∃ (k:Nat) (hs bs:List UInt8) (ls:List Sec),k ≤ n∧vi = .int .i64 k∧Hid (byteK.sl.M w (fun k=>k < w.heap.size) hs [v5])∧Hid (byteK.sl.M w (fun k=>k < w.heap.size) bs [v6]) ∧
    7 * (n - k) + 3 ≤ hs.length∧bs.length ≤ 140737488355328∧Hid (secs n H0 B0 = (secs (n - k) hs bs).map (ls ++ ·))∧ls.length = k∧Hid (secK.own 82 wr w.heap.size (fun k=>w.heap.size ≤ k) v7 ls)∧Hid (Below w.heap.size w wr)) (fun _ _ _ vi _=>n - (intOf vi).toNat)
   case atStart=>exact ⟨0,H0,B0,[],by omega,rfl,HR1,HR2,hl1,hl2,HI0,rfl,Zz (Kd.own_nil _ _ _ _ _),HB0⟩
   case round =>
    clear HR1 HR2 hl1 hl2 HI0 HB0 nq
    obtain ⟨k,hs,bs,ls,hk,rfl,HHs,HBs,hhl,hbl,HI,hls,HO,HB⟩:=hrel
    by_cases hlt:k < n
    ·
     obtain ⟨Ah,ch,hv,g1,g2,g3,gr⟩:=HHs.o
     simp at hv
     subst hv
     obtain ⟨Ab,cb,hv,e1,e2,e3,er⟩:=HBs.o
     simp at hv
     subst hv
     have hdl:decide ((k:Int) < (n:Int)) = true:=dT (by omega)
     obtain ⟨m,hm⟩:∃ m,n - k = m + 1:=⟨n - k - 1,by omega⟩
     rw [hm] at HI
     obtain ⟨gh,oh,rfl,hcell⟩:=u8_plain gr (by omega)
     have hc0:=hcell 0 (by omega)
     clear hcell
     rw [Nat.add_zero] at hc0
     have HG0:=Zz (getD_at hs 0 (by omega))
     have HQ1:=Zz (sl_cut (j:=1) g1 g2 gr)
     have HQ7:=Zz (sl_cut (j:=7) g1 g2 gr)
     have hl0:0 < hs.length:=by omega
     have hlh:7 * (n - (k + 1)) + 3 ≤ (hs.drop 7).length:=by simp;omega
     have HNC:=fun (wx:World) (h:Below w.heap.size w wx)=>number_calls (hs.drop 1) (by simp;omega) _ _ wx (byteK.sl.M_old HQ1.o h)
     clear gr HHs HQ1
     go_wp2_with fail
     refine (HNC _ HB.o).mono ?_
     rintro e wn ⟨rfl,nq,rfl⟩
     clear HNC
     have hnum:=num_lt (hs.drop 1)
     have HSt:=Zz (secs_step m hs bs)
     have HSs:=Zz (secs_stop m hs bs)
     generalize num (hs.drop 1) = sz at *
     by_cases hsz:bs.length < sz
     ·
      have hd:decide (bs.length < sz) = true:=dT hsz
      have HN:Hid (Reads b none):=Zz (reads_of_parse_none (by rw [HParse.o,HI.o,HSs.o hsz];rfl))
      go_wp2_with fail
      go_ret2
      exact ⟨bel_drewN HB.o _,none,HN.o,rfl⟩
     ·
      have hd:decide (bs.length < sz) = false:=dF hsz
      have hx0:=hs[0].toNat_lt
      have HS':=Zz (HSt.o (by omega))
      rw [HG0.o] at HS'
      have hbt:(bs.take sz).length = sz:=by simp;omega
      obtain ⟨Ab1,-,-,hcub,hrowb⟩:=Kd.cut_run (P:=Tryz.prog) byteK 55 5 Tryz.underlying55 cellsB (.int .u8 0) 1 info_u8 Ab bs.length cb 0 sz (by omega) (by omega) e1 e2 e3
      have hqb:=fun (kl:IntKind) (w:World)=>hcub kl w rfl
      have HQb:=Zz (hrowb w _ bs rfl er)
      obtain ⟨Ab2,-,hcur,-,hrowr⟩:=Kd.cut_run (P:=Tryz.prog) byteK 55 5 Tryz.underlying55 cellsB (.int .u8 0) 1 info_u8 Ab bs.length cb sz bs.length (by omega) (lR _) e1 e2 e3
      have hqr:=fun (kl:IntKind) (w:World)=>hcur kl w rfl
      have HQr:=Zz (hrowr w _ bs rfl er)
      rw [List.take_length] at HQr
      rw [List.drop_zero] at HQb
      simp only [Nat.sub_zero] at hqb HQb
      rw [show bs.length - sz = (bs.drop sz).length by simp] at hqr HQr
      have hrl:(bs.drop sz).length ≤ 140737488355328:=by simp;omega
      have HI':Hid (secs n H0 B0 = (secs m (hs.drop 7) (bs.drop sz)).map ((ls ++ [((hs[0].toNat:Int),bs.take sz)]) ++ ·)):=by
       refine Zz ?_
       rw [HI.o,HS'.o,Option.map_map]
       congr 1
       funext q
       simp
      clear hcub hrowb hcur hrowr HSt HSs HS' HI HG0 er
      generalize cb - sz = cr at *
      generalize bs.drop sz = rest at *
      generalize bs.take sz = body at *
      subst hbt
      generalize hs.drop 7 = hs7 at *
      generalize hs[0] = x0 at *
      have HOd:Hid (secK.own 82 (wr.drewN nq) w.heap.size (fun k=>w.heap.size ≤ k) u7 ls):=Zz (Kd.own_move (w:=wr) (w1:=wr.drewN nq) (fun _ _ _=>rfl) HO.o)
      have HBd:=Zz (bel_drewN HB.o nq)
      generalize wr.drewN nq = wy at *
      clear HO HB
      go_wp2_with fail
      go_cut [7] (fun v7 wx=>Hid (secK.own 82 wx w.heap.size (fun k=>w.heap.size ≤ k) v7 (ls ++ [((x0.toNat:Int),body)]))∧Hid (Below w.heap.size w wx))
      case first =>
       have hB:=HBd.o
       have wx:IntKind.i64.wrap (x0.toNat:Int) = (x0.toNat:Int):=by rw [IntKind.wrap_i64];omega
       have HClone:Hid (∀ W,Below w.heap.size w W → Calls Tryz.prog 110 #[.slice Ab1 body.length cb] W (NewBytes body W)):=
        Zz (fun W h=>clone_calls body _ W (byteK.sl.mono (fun _ _ _=>trivial) (byteK.sl.M_old HQb.o h)))
       go_region_held3 (fun w'=>w'.cell? ⟨gh,oh,none⟩ = some (.int .u8 (x0.toNat:Int)))
        (exact cell_same hc0 ((show Below w.heap.size w _ by (repeat (first | assumption | refine bel_alloc ?_ _ | refine bel_drew ?_))).block _ (cell_lt hc0)))
        (first
         | (go_at_call 110;go_loud (refine (HClone.o _ (by (repeat (first | exact hB | refine bel_drew ?_)))).mono ?_);rintro e w2 ⟨v2,rfl,ho2,hb2⟩;obtain ⟨A9,c9,rfl,_,_⟩:=Kd.own_slice ho2;have HT:=Zz ho2;have hb3:Below w.heap.size w w2:=bel_step (by (repeat (first | exact hB | refine bel_drew ?_))) hb2;have HO2:Hid (secK.own 82 w2 w.heap.size (fun k=>w.heap.size ≤ k) u7 ls):=Zz (Kd.own_below (by (repeat (first | exact HOd.o | refine Kd.own_drew ?_))) hb2);clear ho2)
         | (refine Kd.own_app_step secK (w0:=w) w.heap.size (by rfl) (.tmp 43) (.tmp 53) 84 82 (.agg #[.int .i64 0,.slice none 0 0]) 32 (by rfl) Tryz.underlying84 info_sec rfl (by decide) u7 ls [((x0.toNat:Int),body)] (some ⟨w2.heap.size,0,none⟩) 1 (fun k=>w.heap.size ≤ k) (by rfl) (by rfl) ?ho (.inl ?hr) ?hb ?hs ?hl ?_;go_loud (case hl=>simp;omega);go_loud (case ho=>repeat (first | exact HO2.o | refine Kd.own_alloc ?_ _ | refine Kd.own_drew ?_));go_loud (case hr=>exact sec_row HT.o hB.size (fun k hk=>(Kd.own_lt HOd.o k hk).2) hb2.size ⟨by omega,by omega⟩ (by (repeat (first | exact bR _ _ | refine bel_alloc ?_ _ | refine bel_drew ?_))) (by repeat (first | exact Kd.bi_new (by simp) | refine Kd.bi_old ?_ | refine Kd.bi_drew ?_)));go_loud (case hb=>repeat (first | assumption | refine bel_alloc ?_ _ | refine bel_drew ?_));go_loud (case hs=>have:=hb3.size;simp;omega);intro v4 w4 ho4 hb4 hg4 hv4;have HO4:=Zz ho4;clear ho4 hg4 hv4)
         | fail)
       go_wp2_with fail
       go_meet
       exact ⟨HO4,Zz hb4⟩
      case rest =>
       clear HOd HBd
       obtain ⟨HO,HB⟩:=hcut
       go_upto_region 14 with fail
       go_quiet (fail)
       go_wp2_with fail
       go_roundw
       case rel=>exact ⟨k + 1,hs7,rest,ls ++ [((x0.toNat:Int),body)],by omega,by go_num,HQ7,HQr,hlh,hrl,Zz (by rw [HI'.o,show n - (k + 1) = m by omega]),by simp;omega,Zz (Kd.own_move (w:=wc) (fun _ _ _=>rfl) HO.o),Zz (bel_drewN HB.o _)⟩
       case measure=>simp [intOf];omega
    ·
     obtain rfl:k = n:=by omega
     have hdl:decide ((k:Int) < (k:Int)) = false:=by simp
     have HPr:Hid (parse b = some ls):=Zz (by rw [HParse.o,HI.o,Nat.sub_self];simp [secs])
     have HRd:=Zz (reads_of_parse HPr.o)
     have HMs:Hid (secK.sl.M wr T ls [u7]):=Zz (Kd.own_sl HO.o (fun _ _=>trivial) (fun _ _=>trivial))
     have HPk:=Zz (pack_calls ls u7 wr HMs.o)
     go_wp2_with fail
     refine HPk.o.mono ?_
     clear HPk HMs
     rintro e w1 ⟨hb1,hr1⟩
     have HB1:=Zz (bel_step HB.o hb1)
     have HO1:=Zz (Kd.own_below HO.o hb1)
     rcases hr1 with ⟨hMay,vp,rfl,hop⟩ | ⟨hMay,rfl⟩
     ·
      have HOp:=Zz hop
      clear hop hb1
      have HMay:=Zz hMay
      clear hMay
      have HRd':Hid (Reads b (if file ls = b then some ls else none)):=Zz (by
       have:=HRd.o
       by_cases hf:file ls = b
       ·
        rw [if_pos ⟨HMay.o,hf⟩] at this
        rw [if_pos hf];exact this
       ·
        rw [if_neg (fun h=>hf h.2)] at this
        rw [if_neg hf];exact this)
      generalize file ls = fl at *
      have HEq:=Zz (fun (W:World) (h:Below w1.heap.size w1 W)=>equal_calls fl b vp (.slice (some ⟨ba,off,none⟩) b.length c) T T W (Kd.own_sl (Kd.own_below HOp.o h) (fun _ _=>trivial) (fun _ _=>trivial)) (Kd.M_below HM.o (bel_step HB1.o h)))
      obtain ⟨Ap,cp,rfl,_,_⟩:=Kd.own_slice HOp.o
      go_wp2_with fail
      refine (HEq.o _ (bR _ _)).mono ?_
      rintro e w2 ⟨rfl,rfl⟩
      by_cases hf:fl = b
      ·
       have hd:(fl == b) = true:=by simp [hf]
       rw [if_pos hf] at HRd'
       rw [hd]
       go_wp2_with fail
       go_ret2
       exact ⟨HB1.o,some ls,HRd'.o,_,rfl,HO1.o⟩
      ·
       have hd:(fl == b) = false:=by simp [hf]
       rw [if_neg hf] at HRd'
       rw [hd]
       go_wp2_with fail
       go_ret2
       exact ⟨HB1.o,none,HRd'.o,rfl⟩
     ·
      have HRd':Hid (Reads b none):=Zz (by
       have:=HRd.o
       rwa [if_neg (fun h=>hMay h.1)] at this)
      go_wp2_with fail
      go_ret2
      exact ⟨HB1.o,none,HRd'.o,rfl⟩
end BoxUnpack
namespace SecTwo
open Go.RowKit Go.Lib B BoxPure BoxWalk BoxPack
theorem sec_at {w:World} {ok:Nat → Prop} {l:List Sec} {A:Option Addr} {c:Nat} (h:secK.sl.M w ok l [.slice A l.length c]) (hp:0 < l.length) :
  ∃ b off,A = some ⟨b,off,none⟩∧b < w.heap.size∧∀ i (hi:i < l.length),∃ Ai ci,w.cell? ⟨b,off + i * 2 + 1,none⟩ = some (.slice Ai l[i].2.length ci)∧byteK.sl.M w ok l[i].2 [.slice Ai l[i].2.length ci]:=by
 obtain ⟨A',c',he,hlc,_,hA,hrow⟩:=h
 obtain ⟨rfl,rfl⟩:A = A'∧c = c':=by simpa using he
 obtain ⟨b,off,hAe,_,hb,hcells⟩:=Kd.row_addr hrow hp
 refine ⟨b,off,hAe,hb,fun i hi=>?_⟩
 obtain ⟨cs,hM,hcell⟩:=hcells i hi
 obtain ⟨a1,a2,rfl,h1,h2⟩:=hM
 obtain ⟨Ai,ci,hv,_⟩:=id h2
 obtain ⟨h1a,_⟩:=h1
 subst h1a
 subst hv
 refine ⟨Ai,ci,?_,h2⟩
 have:=hcell 1 (.slice Ai l[i].2.length ci) (by rfl)
 exact this
end SecTwo
namespace FrontW
open Go.RowKit Go.Lib B Rd StoreW Clones FrontP
def GoodF (l:List (List UInt8)) (i:Nat):Prop:=∀ (h:i < l.length),l[i] ≠ []∧l[i].length ≤ 250∧∀ (h':0 < i),l[i - 1] < l[i]
theorem may_good {l:List (List UInt8)} (h3:l.length ≤ 300) (h:∀ i,i < l.length → GoodF l i):MayF l:=by
 refine ⟨h3,fun x hx=>?_,?_⟩
 ·
  obtain ⟨i,hi,rfl⟩:=List.getElem_of_mem hx
  have:=h i hi hi
  exact ⟨this.1,this.2.1⟩
 ·
  rw [List.pairwise_iff_getElem]
  intro i j hi hj hij
  have key:∀ d (hd:i + d + 1 < l.length),l[i] < l[i + d + 1]:=by
   intro d
   induction d with
   | zero=>exact fun hd=>(h (i + 0 + 1) hd hd).2.2 (by omega)
   | succ d ih =>
    intro hd
    have h1:=ih (by omega)
    have h2:=(h (i + (d + 1) + 1) hd hd).2.2 (by omega)
    have e:i + (d + 1) + 1 - 1 = i + d + 1:=by omega
    simp only [e] at h2
    exact List.lt_trans h1 h2
  have:=key (j - i - 1) (by omega)
  have e:i + (j - i - 1) + 1 = j:=by omega
  simp only [e] at this
  exact this
theorem new_bad (l:List (List UInt8)) (hl:l.length ≤ 140737488355328) (hs:∀ x ∈ l,x.length ≤ 140737488355328) (hn:¬ MayF l) (A:Option Addr) (c:Nat) (w:World) (HL:strK.sl.M w (fun _=>True) (strs l) [.slice A l.length c]) :
  Calls Tryz.prog 57 #[.slice A l.length c] w fun e w'=>e = .returned (.tuple #[.pointer none,.int .i64 1])∧Below w.heap.size w w':=by
 have HRow:=Zz (fun hp=>str_cells HL hp)
 have HS:=Zz hs
 have HN:=Zz hn
 clear hs hn HL
 go_enter Tryz.func57,Tryz.ntmps57
 by_cases h3:300 < l.length
 ·
  have h300:decide ((300:Int) < (l.length:Int)) = true:=dT (by omega)
  go_wp2
  go_ret2
  exact ⟨rfl,bR _ _⟩
 have h300:decide ((300:Int) < (l.length:Int)) = false:=dF (by omega)
 have HGd:=Zz (fun h=>HN.o (may_good (l:=l) (by omega) h))
 go_wp2
 go_loopw [11] (fun vk wr=>∃ k:Nat,vk = .int .i64 k∧k ≤ l.length∧w = wr∧Hid (∀ i,i < k → GoodF l i)) (fun vk _=>l.length - (intOf vk).toNat)
 case atStart=>exact ⟨0,rfl,by omega,rfl,Zz (fun i h=>by omega)⟩
 case round =>
  obtain ⟨k,rfl,hk,rfl,HG⟩:=hrel
  by_cases hlt:k < l.length
  ·
   have hd:decide ((k:Int) < (l.length:Int)) = true:=dT (by omega)
   have hd2:decide (k < l.length) = true:=dT hlt
   have ik:(k:Int) < (l.length:Int):=by omega
   obtain ⟨b,off,rfl,_,hbs,hcells⟩:=HRow.o (by omega)
   have hcx:=hcells k hlt
   obtain ⟨x,hx⟩:∃ x,x = l[k]:=⟨_,rfl⟩
   rw [← hx] at hcx
   have hxs:=HS.o x (by rw [hx];exact List.getElem_mem hlt)
   have zx:=mkS_size x
   have tx:=mkS_toList x
   have HX:=Zz hx
   clear hx
   by_cases hem:x = []
   ·
    have hemp:x.isEmpty = true:=by rw [hem];rfl
    have hem2:(x == []) = true:=by rw [hem];rfl
    have hlen:x.length = 0:=by rw [hem];rfl
    clear hem hcells
    go_wp2
    go_ret2
    exact ⟨rfl,bR _ _⟩
   have hemp:x.isEmpty = false:=by cases x with
    | nil=>exact absurd rfl hem
    | cons a x=>rfl
   have hem2:(x == []) = false:=by simpa using hem
   by_cases hbig:250 < x.length
   ·
    have h250:decide ((250:Int) < (x.length:Int)) = true:=dT (by omega)
    clear hem hcells
    go_wp2
    go_ret2
    exact ⟨rfl,bR _ _⟩
   have h250:decide ((250:Int) < (x.length:Int)) = false:=dF (by omega)
   have HEm:=Zz hem
   clear hem
   by_cases h0:k = 0
   ·
    subst h0
    have HG2:Hid (∀ i,i < 1 → GoodF l i):=Zz (fun i hi h=>by
     have:i = 0:=by omega
     subst this
     rw [← HX.o]
     exact ⟨HEm.o,by omega,fun h'=>absurd h' (Nat.lt_irrefl 0)⟩)
    clear hcells hxs
    simp only [Nat.add_zero] at hcx
    go_wp2
    go_roundw
    case rel=>exact ⟨1,by go_num,by omega,trivial,HG2⟩
    case measure=>simp [intOf];omega
   ·
    have hk0:decide ((0:Int) < (k:Int)) = true:=dT (by omega)
    obtain ⟨j,hj⟩:∃ j,j = k - 1:=⟨_,rfl⟩
    have hw1:IntKind.i64.wrap ((k:Int) - 1) = (j:Int):=by rw [IntKind.wrap_i64];omega
    have ij:(j:Int) < (l.length:Int):=by omega
    have hjl:j < l.length:=by omega
    have hcy:=hcells j hjl
    obtain ⟨y,hy⟩:∃ y,y = l[j]:=⟨_,rfl⟩
    rw [← hy] at hcy
    have ty:=mkS_toList y
    have HY:=Zz hy
    have HJ:=Zz hj
    clear hy hj hcells
    by_cases hyx:y < x
    ·
     have hless:Op.bytesLess (mkS y).toList (mkS x).toList = true:=by rw [Cmp.less_eq];exact dT hyx
     have hless2:Op.bytesLess y x = true:=by rw [Go.Proofs.bytesLess_eq];exact dT hyx
     have HG2:Hid (∀ i,i < k + 1 → GoodF l i):=Zz (fun i hi=>by
      by_cases hik:i < k
      ·
       exact HG.o i hik
      ·
       have:i = k:=by omega
       subst this
       intro h
       refine ⟨by rw [← HX.o];exact HEm.o,by rw [← HX.o];omega,fun h'=>?_⟩
       have e:l[i - 1] = l[j]:=by congr 1;exact HJ.o.symm
       rw [← HX.o,e,← HY.o]
       exact hyx)
     have HYX:=Zz hyx
     clear hyx hxs
     go_wp2
     go_roundw
     case rel=>exact ⟨k + 1,by go_num,by omega,trivial,HG2⟩
     case measure=>simp [intOf];omega
    ·
     have hless:Op.bytesLess (mkS y).toList (mkS x).toList = false:=by rw [Cmp.less_eq];exact dF hyx
     have hless2:Op.bytesLess y x = false:=by rw [Go.Proofs.bytesLess_eq];exact dF hyx
     clear hyx hxs
     go_wp2
     go_ret2
     exact ⟨rfl,bR _ _⟩
  ·
   exact (HGd.o (fun i hi=>HG.o i (by omega))).elim
end FrontW
namespace BytesEq
open Go.RowKit Go.Lib B Rd
theorem conv_bytes {w:World} {l:List UInt8} {A:Option Addr} {c:Nat} {ok:Nat → Prop} (h:byteK.sl.M w ok l [.slice A l.length c]):(convert 55 9 (.slice A l.length c)).run Tryz.prog w = .ok (.string (mkS l)) w:=by
 obtain ⟨A',c',he,_,_,_,hr⟩:=h
 obtain ⟨rfl,rfl⟩:A = A'∧c = c':=by simpa using he
 exact conv_string (P:=Tryz.prog) Tryz.underlying55 Tryz.underlying5 Tryz.underlying9 hr
theorem equal_calls (x y:List UInt8) (A B:Option Addr) (c d:Nat) (ok:Nat → Prop) (w:World) (hx:byteK.sl.M w ok x [.slice A x.length c]) (hy:byteK.sl.M w ok y [.slice B y.length d]) :
  Calls Tryz.prog 72 #[.slice A x.length c,.slice B y.length d] w fun e w'=>e = .returned (.bool (decide (x = y)))∧w = w':=by
 have h1:=conv_bytes hx
 have h2:=conv_bytes hy
 have h3:=Cmp.beq_eq x y
 have tx:=mkS_toList x
 have ty:=mkS_toList y
 have h4:(x == y) = decide (x = y):=by
  by_cases h:x = y
  ·
   subst h;simp
  ·
   simp [h]
 generalize decide (x = y) = r at *
 clear hx hy
 go_enter Tryz.func72,Tryz.ntmps72
 go_wp2
 go_ret
 exact ⟨rfl,rfl⟩
end BytesEq
namespace FrontW
open Go.RowKit Go.Lib B Rd StoreW Clones FrontP BoxWalk BoxUnpack
theorem readN_two {n:Nat} {last:List UInt8} {r0 r1:UInt8} {rest:List UInt8} (h0:r0.toNat ≤ last.length) (h1:r1.toNat ≤ rest.length) :
  readN (n + 1) last (r0 :: r1 :: rest) = (readN n (last.take r0.toNat ++ rest.take r1.toNat) (rest.drop r1.toNat)).map fun l=>(last.take r0.toNat ++ rest.take r1.toNat) :: l:=by
 rw [readN,if_pos ⟨h0,h1⟩]
theorem readN_no {n:Nat} {last:List UInt8} {r0 r1:UInt8} {rest:List UInt8} (h:¬ (r0.toNat ≤ last.length∧r1.toNat ≤ rest.length)):readN (n + 1) last (r0 :: r1 :: rest) = none:=by
 rw [readN,if_neg h]
theorem readN_short {n:Nat} {last rs:List UInt8} (h:rs.length < 2):readN (n + 1) last rs = none:=by
 match rs,h with
 | [],_=>rfl
 | [a],_=>rfl
theorem one_strs (W:World) (X:List UInt8) (h:X.length ≤ 140737488355328):strK.sl.M (W.alloc (.cells #[.string (mkS X)] 9)) (fun _=>True) [mkS X] [.slice (some ⟨W.heap.size,0,none⟩) 1 1]:=by
 have z:=mkS_size X
 refine ⟨some ⟨W.heap.size,0,none⟩,1,rfl,lR _,⟨by simp,by unfold maxLen;omega⟩,fun h=>(by cases h),fun i x hx=>?_⟩
 match i with
 | 0 =>
  simp at hx
  subst hx
  refine ⟨_,[.string (mkS X)],rfl,trivial,⟨rfl,by show (mkS X).size ≤ _;rw [z];omega⟩,fun j u hu=>?_⟩
  rw [add_plain,World.cell?,Kd.heap_new]
  match j with
  | 0=>simp at hu;subst hu;rfl
  | j + 1=>simp at hu
 | i + 1=>simp at hx
theorem strs_add (l:List (List UInt8)) (x:List UInt8):strs l ++ [mkS x] = strs (l ++ [x]):=by simp [strs]
def RdPost (b:List UInt8) (w:World) (e:Ending) (w':World):Prop:=
 (∃ r,ReadsF b r∧match r with
  | none=>e = .returned (.tuple #[.pointer none,.int .i64 2])
  | some L=>∃ g,e = .returned (.tuple #[.pointer (some ⟨g,0,none⟩),.int .i64 0])∧DictAt w' (fun _=>True) g L)∧Below w.heap.size w w'
theorem read_calls (b:List UInt8) (hb:b.length ≤ 100000) (A:Option Addr) (c:Nat) (w:World) (HL:byteK.sl.M w (fun _=>True) b [.slice A b.length c]) :
  Calls Tryz.prog 67 #[.slice A b.length c] w (RdPost b w):=by
 have HM:=Zz (Kd.M_bound HL)
 obtain ⟨A',c',hv,h1,h2,h3,hr0⟩:=HL
 obtain ⟨rfl,rfl⟩:A = A'∧c = c':=by simpa using hv
 have HR:=Zz (Kd.row_mono (ok':=fun k=>k < w.heap.size) (fun k _ hk=>hk) hr0)
 clear hr0
 by_cases c2:b.length < 2
 ·
  have q1:decide ((b.length:Int) < 2) = true:=dT (by omega)
  have HN:=Zz (readsF_fail (b:=b) (by unfold parseF;rw [if_pos c2]))
  go_enter Tryz.func67,Tryz.ntmps67
  go_wp2
  go_ret2
  exact ⟨⟨none,HN.o,rfl⟩,bR _ _⟩
 have q1:decide ((b.length:Int) < 2) = false:=dF (by omega)
 obtain ⟨ba,off,rfl,hcell⟩:=u8_plain HR.o (by omega)
 have hc0:=hcell 0 (by omega)
 have hc1:=hcell 1 (by omega)
 rw [Nat.add_zero] at hc0
 obtain ⟨n,hn⟩:∃ n,n = countF b:=⟨_,rfl⟩
 have HPar:Hid (parseF b = readN n [] (b.drop 2)):=Zz (by unfold parseF;rw [if_neg c2,hn])
 have hcn:(b[0].toNat:Int) * 256 + (b[1].toNat:Int) = (n:Int):=by
  rw [hn]
  unfold countF
  rw [List.getD_eq_getElem?_getD,List.getD_eq_getElem?_getD,List.getElem?_eq_getElem (by omega),List.getElem?_eq_getElem (by omega)]
  simp
 have l0:=b[0].toNat_lt
 have l1:=b[1].toNat_lt
 obtain ⟨p0,hp0⟩:∃ p0,p0 = b[0].toNat:=⟨_,rfl⟩
 obtain ⟨p1,hp1⟩:∃ p1,p1 = b[1].toNat:=⟨_,rfl⟩
 rw [← hp0] at hc0 hcn l0
 rw [← hp1] at hc1 hcn l1
 have i0:(0:Int) < (b.length:Int):=by omega
 have i1:(1:Int) < (b.length:Int):=by omega
 have hw0:IntKind.i64.wrap ((p0:Int) * 256) = (p0:Int) * 256:=by rw [IntKind.wrap_i64];omega
 have hw1:IntKind.i64.wrap ((p0:Int) * 256 + (p1:Int)) = (n:Int):=by rw [IntKind.wrap_i64];omega
 have hnb:n ≤ 65535:=by omega
 obtain ⟨A1,-,hcu1,-,hrow1⟩:=Kd.cut_run (P:=Tryz.prog) byteK 55 5 Tryz.underlying55 cellsB (.int .u8 0) 1 PackW.info_u8 (some ⟨ba,off,none⟩) b.length c 2 b.length (by omega) (lR _) h1 h2 h3
 have hs1:∀ (kl:IntKind) (w:World),(Instr.slice 55 (.slice (some ⟨ba,off,none⟩) b.length c) (some (.int kl 2)) none none).run Tryz.prog w = .ok (.slice A1 (b.length - 2) (c - 2)) w:=fun kl w=>hcu1 kl w rfl
 have HR1:=Zz (hrow1 w _ b rfl HR.o)
 rw [List.take_length] at HR1
 clear hcu1 hrow1 hcell hn hp0 hp1
 obtain ⟨R0,hR0⟩:∃ R0,R0 = b.drop 2:=⟨_,rfl⟩
 have hR0l:R0.length ≤ 100000:=by rw [hR0];simp;omega
 rw [← hR0] at HPar HR1
 clear hR0
 go_enter Tryz.func67,Tryz.ntmps67
 go_upto_region 4 with fail
 go_quiet (fail)
 go_upto_region 5 with fail
 go_quiet (fail)
 have HX0:Hid (strK.own 9 w w.heap.size TT (.slice none 0 0) (strs [])):=Zz (Kd.own_nil _ _ _ _ _)
 have HI0:Hid (readN n [] R0 = (readN (n - 0) [] R0).map (([]:List (List UInt8)) ++ ·)):=Zz (by
  cases h:readN n [] R0 <;> simp [h])
 have hemp:(⟨#[]⟩:ByteArray) = mkS []:=rfl
 go_wp2
 go_loopw [4,5,6,25] (fun v4 v5 v6 vk wr=>∃ (k:Nat) (last rs:List UInt8) (ls:List (List UInt8)),vk = .int .i64 k∧k ≤ n∧v5 = .string (mkS last)∧last.length ≤ 510∧ls.length = k∧2 * k + rs.length ≤ 100000∧Hid (byteK.sl.M w (fun k=>k < w.heap.size) rs [v6])∧Hid (readN n [] R0 = (readN (n - k) last rs).map (ls ++ ·))∧Hid (∀ x ∈ ls,x.length ≤ 510)∧Hid (strK.own 9 wr w.heap.size TT v4 (strs ls))∧Hid (Below w.heap.size w wr)) (fun _ _ _ vk _=>n - (intOf vk).toNat)
 case atStart=>exact ⟨0,[],R0,[],rfl,by omega,rfl,by simp,rfl,by omega,by first | exact HR1 | (have h:=HR1.o;simp at h;exact Zz h),HI0,Zz (fun x hx=>by cases hx),Zz (Kd.own_nil _ _ _ _ _),Zz (by repeat (first | exact bR _ _ | refine bel_drewN ?_ _ | refine bel_drew ?_))⟩
 case round =>
  obtain ⟨k,last,rs,ls,rfl,hk,rfl,hlast,hlsl,hsz,HRs,HI,HLs,HO,HB⟩:=hrel
  clear HR1 HX0 HI0 hs1
  by_cases hlt:k < n
  ·
   have hd:decide ((k:Int) < (n:Int)) = true:=dT (by omega)
   have hd2:decide (k < n) = true:=dT hlt
   obtain ⟨m,hm⟩:∃ m,n - k = m + 1:=⟨n - k - 1,by omega⟩
   have hm2:n - (k + 1) = m:=by omega
   rw [hm] at HI
   obtain ⟨Ar,cr,hv,g1,g2,g3,gr⟩:=HRs.o
   simp at hv
   subst hv
   have zl:=mkS_size last
   by_cases hsh:rs.length < 2
   ·
    have hN:=readN_short (n:=m) (last:=last) hsh
    have HF:=Zz (readsF_fail (b:=b) (by rw [HPar.o,HI.o,hN];rfl))
    have e1:decide ((rs.length:Int) < 2) = true:=dT (by omega)
    have HBd:=Zz (fun q=>bel_drewN HB.o q)
    clear hN gr
    go_wp2
    go_ret2
    exact ⟨⟨none,HF.o,rfl⟩,HB.o⟩
   obtain ⟨n6,hn6⟩:∃ n6,n6 = rs.length:=⟨_,rfl⟩
   obtain ⟨r0,r1,rest,hrs⟩:∃ r0 r1 rest,rs = r0 :: r1 :: rest:=by
    match rs,hsh with
    | [],h=>exact absurd (by simp) h
    | [a],h=>exact absurd (by simp) h
    | a :: b :: l,_=>exact ⟨a,b,l,rfl⟩
   obtain ⟨gh,oh,rfl,hcell⟩:=u8_plain (Kd.row_old gr HB.o) (by omega)
   have q0:=hcell 0 (by omega)
   have q1':=hcell 1 (by omega)
   simp only [hrs,List.getElem_cons_zero,List.getElem_cons_succ,Nat.add_zero] at q0 q1'
   have hrl:n6 = rest.length + 2:=by rw [hn6,hrs];rfl
   have t0:=r0.toNat_lt
   have t1:=r1.toNat_lt
   obtain ⟨p,hp⟩:∃ p,p = r0.toNat:=⟨_,rfl⟩
   obtain ⟨q,hq⟩:∃ q,q = r1.toNat:=⟨_,rfl⟩
   have HNo:=Zz (readN_no (n:=m) (last:=last) (r0:=r0) (r1:=r1) (rest:=rest))
   have HYes:=Zz (readN_two (n:=m) (last:=last) (r0:=r0) (r1:=r1) (rest:=rest))
   rw [← hp,← hq] at HNo HYes
   rw [← hp] at q0 t0
   rw [← hq] at q1' t1
   rw [hrs] at HI
   obtain ⟨ml,hml⟩:∃ ml,ml = rest.length:=⟨_,rfl⟩
   have j0:(0:Int) < (n6:Int):=by omega
   have j1:(1:Int) < (n6:Int):=by omega
   have e1:decide ((n6:Int) < 2) = false:=dF (by omega)
   have hsub:IntKind.i64.wrap ((n6:Int) - 2) = (ml:Int):=by rw [IntKind.wrap_i64];omega
   rw [← hn6] at g1 g2
   rw [← hml] at HNo HYes
   have HRow:=Zz gr
   have HRse:=Zz hrs
   have HMl:=Zz hml
   have HN6:=Zz hn6
   have n6a:ml + 2 ≤ n6:=by omega
   have n6b:n6 ≤ ml + 2:=by omega
   rw [← hn6] at hsz
   rw [← hn6]
   clear hcell gr hrs hsh hrl hp hq hml hn6
   by_cases hbad:last.length < p
   ·
    have HF:=Zz (readsF_fail (b:=b) (by rw [HPar.o,HI.o,HNo.o (fun h=>by omega)];rfl))
    have e2:decide ((last.length:Int) < (p:Int)) = true:=dT (by omega)
    go_wp2
    go_ret2
    exact ⟨⟨none,HF.o,rfl⟩,HB.o⟩
   have e2:decide ((last.length:Int) < (p:Int)) = false:=dF (by omega)
   by_cases hbad2:ml < q
   ·
    have HF:=Zz (readsF_fail (b:=b) (by rw [HPar.o,HI.o,HNo.o (fun h=>by omega)];rfl))
    have e3:decide ((ml:Int) < (q:Int)) = true:=dT (by omega)
    have e4:decide ((n6:Int) - 2 < (q:Int)) = true:=dT (by omega)
    go_wp2
    go_ret2
    exact ⟨⟨none,HF.o,rfl⟩,HB.o⟩
   have e3:decide ((ml:Int) < (q:Int)) = false:=dF (by omega)
   have e4:decide ((n6:Int) - 2 < (q:Int)) = false:=dF (by omega)
   obtain ⟨Ac,hcuc,-,-,hrowc⟩:=Kd.cut_run (P:=Tryz.prog) byteK 55 5 Tryz.underlying55 cellsB (.int .u8 0) 1 PackW.info_u8 (some ⟨gh,oh,none⟩) n6 cr 2 (q + 2) (by omega) (by omega) g1 g2 g3
   obtain ⟨Ad,-,hcud,-,hrowd⟩:=Kd.cut_run (P:=Tryz.prog) byteK 55 5 Tryz.underlying55 cellsB (.int .u8 0) 1 PackW.info_u8 (some ⟨gh,oh,none⟩) n6 cr (q + 2) n6 (by omega) (lR _) g1 g2 g3
   obtain ⟨X1,hX1⟩:∃ X1,X1 = last.take p:=⟨_,rfl⟩
   obtain ⟨X2,hX2⟩:∃ X2,X2 = rest.take q:=⟨_,rfl⟩
   obtain ⟨rs',hrs'⟩:∃ rs',rs' = rest.drop q:=⟨_,rfl⟩
   obtain ⟨X,hX⟩:∃ X,X = X1 ++ X2:=⟨_,rfl⟩
   have l1x:X1.length = p:=by rw [hX1];simp;omega
   have l2x:X2.length = q:=by rw [hX2];simp;have:=HMl.o;omega
   have hXl:X.length ≤ 510:=by rw [hX,List.length_append];omega
   have hrsl:rs'.length + q = ml:=by rw [hrs'];simp;have:=HMl.o;omega
   have HI2:Hid (readN n [] R0 = (readN (n - (k + 1)) X rs').map ((ls ++ [X]) ++ ·)):=Zz (by
    rw [HI.o,HYes.o (by omega) (by omega),hm2,← hX1,← hX2,← hX,← hrs',Option.map_map]
    congr 1
    funext l
    simp)
   have ht2:(rs.take (q + 2)).drop 2 = X2:=by
    rw [HRse.o,hX2]
    try rfl
   have hd2':(rs.take n6).drop (q + 2) = rs':=by
    rw [HN6.o,List.take_length,HRse.o,hrs']
    try rfl
   have HC1:=hrowc wr (fun k=>k < w.heap.size) rs HN6.o.symm (Kd.row_old HRow.o HB.o)
   have HC2:=hrowd w (fun k=>k < w.heap.size) rs HN6.o.symm HRow.o
   rw [ht2,show q + 2 - 2 = X2.length by omega] at HC1
   rw [hd2'] at HC2
   have HCv:Hid (∀ nq,(convert 55 9 (.slice Ac X2.length (cr - 2))).run Tryz.prog (wr.drewN nq) = .ok (.string (mkS X2)) (wr.drewN nq)):=Zz (fun nq=>BytesEq.conv_bytes (Kd.M_below HC1 (bel_drewN (bR _ _) nq)))
   have hsc:∀ (kl kh:IntKind) (w:World),(Instr.slice 55 (.slice (some ⟨gh,oh,none⟩) n6 cr) (some (.int kl 2)) (some (.int kh (2 + (q:Int)))) none).run Tryz.prog w = .ok (.slice Ac X2.length (cr - 2)) w:=fun kl kh w=>by
    have h:=hcuc kl kh w
    rw [show ((q + 2:Nat):Int) = 2 + (q:Int) by omega,show q + 2 - 2 = X2.length by omega] at h
    exact h
   have hsd:∀ (kl:IntKind) (w:World),(Instr.slice 55 (.slice (some ⟨gh,oh,none⟩) n6 cr) (some (.int kl (2 + (q:Int)))) none none).run Tryz.prog w = .ok (.slice Ad (n6 - (q + 2)) (cr - (q + 2))) w:=fun kl w=>by
    have h:=hcud kl w rfl
    rw [show ((q + 2:Nat):Int) = 2 + (q:Int) by omega] at h
    exact h
   have HR2:=Zz HC2
   have hcat:mkS X1 ++ mkS X2 = mkS X:=by rw [hX,mkS_append]
   have z1:=mkS_size X1
   have z2:=mkS_size X2
   have hex:(mkS last).extract 0 p = mkS X1:=by rw [mkS_extract,hX1];simp
   have hcv:=HCv.o
   have ip:(p:Int) ≤ (last.length:Int):=by omega
   have HL2:Hid (∀ x ∈ ls ++ [X],x.length ≤ 510):=Zz (fun x hx=>by
    rcases List.mem_append.1 hx with h | h
    ·
     exact HLs.o x h
    ·
     simp at h;subst h;exact hXl)
   have HLx:=Zz hXl
   have hx2b:X2.length ≤ 255:=by omega
   have hx1b:X1.length ≤ 255:=by omega
   clear hcuc hcud hrowc hrowd hX1 hX2 hX hrs' l1x l2x HC1 HC2 ht2 hd2' hXl
   go_upto_region 10 with fail
   go_quiet (fail)
   have HSa:=Zz (strs_add ls X)
   have hsl:(strs ls).length ≤ 50000:=by rw [strs_len];omega
   have hw1x:=HB.o.size
   have hY:=bR wr.heap.size wr
   obtain ⟨A4,c4,rfl,_,_⟩:=Kd.own_slice HO.o
   obtain ⟨Y,hYe⟩:∃ Y,Y = strs ls:=⟨_,rfl⟩
   rw [← hYe] at HO HSa hsl
   rw [← hYe]
   clear hYe
   go_upto_region 11 with fail
   have HBq:=Zz (bel_drewN HB.o nq)
   have HOq:=Zz (Kd.own_below HO.o (bel_drewN (bR _ _) nq))
   have HRq:=Zz (Kd.row_old HRow.o HBq.o)
   clear q0 q1' hcv HCv HO HB hY hw1x
   generalize wr.drewN nq = wq at *
   have hwq:=HBq.o.size
   go_region_held3 (fun w'=>True)
    (exact trivial)
    (first
     | (refine Kd.own_app_step strK (w0:=w) w.heap.size (by rfl) (.tmp 64) (.tmp 66) 51 9 Clones.zero_str 16 (by rfl) Tryz.underlying51 Clones.info_str rfl (by decide) (.slice A4 Y.length c4) Y [mkS X] (some ⟨wq.heap.size,0,none⟩) 1 TT (by rfl) (by rfl) ?ho (.inr ⟨?hr,Clones.any_str⟩) ?hb ?hs ?hl ?_;go_loud (case ho=>repeat (first | exact HOq.o | refine Kd.own_drew ?_ | refine Kd.own_alloc ?_ _));go_loud (case hr=>exact strK.sl.mono (fun _ _ _=>trivial) (Kd.M_below (Kd.M_bound (one_strs _ X (by have:=HLx.o;omega))) (by repeat (first | exact bR _ _ | refine bel_drew ?_))));go_loud (case hb=>repeat (first | exact HBq.o | refine bel_drew ?_ | refine bel_alloc ?_ _));go_loud (case hs=>first | (simp;done) | (simp;omega) | omega);go_loud (case hl=>first | (simp;done) | (simp;omega) | omega);intro v1 w10 ho1 hb1 hg1 hv1;go_loud (rw [HSa.o] at ho1);have HO10:=Zz ho1;have HB10:=Zz hb1;clear ho1 hg1 hv1)
     | fail)
   all_goals (
    have hkk:ls.length + 1 = k + 1:=by omega
    go_wp2
    go_roundw
    case rel=>exact ⟨k + 1,X,rs',ls ++ [X],by go_num,by omega,rfl,HLx.o,by simp;omega,by omega,HR2,HI2,HL2,HO10,HB10⟩
    case measure=>simp [intOf];omega)
  ·
   have hd:decide ((k:Int) < (n:Int)) = false:=dF (by omega)
   have hd2:decide (k < n) = false:=dF hlt
   have HPs:Hid (parseF b = some ls):=Zz (by
    have e:n - k = 0:=by omega
    rw [HPar.o,HI.o,e,readN]
    simp)
   have hlen:ls.length ≤ 50000:=by omega
   obtain ⟨A4,c4,rfl,_,_⟩:=Kd.own_slice HO.o
   rw [strs_len]
   have HM4:=Zz (by
    have h1:=Kd.own_sl (ok:=TT) (ok':=fun _=>True) HO.o (fun _ _=>trivial) (fun _ _=>trivial)
    rwa [strs_len] at h1:strK.sl.M wr (fun _=>True) (strs ls) [.slice A4 ls.length c4])
   have HBw:=Zz HB.o
   clear HO HB HI HRs hd hlsl hsz
   by_cases hmay:MayF ls
   ·
    have HNew:=Zz (new_calls ls hmay.1 hmay.2.1 hmay.2.2 A4 c4 wr HM4.o)
    have HMay:=Zz hmay
    have h300:=hmay.1
    clear hmay
    go_wp2_with fail
    refine HNew.o.mono ?_
    rintro e w8 ⟨⟨gd,rfl,hgd,hD⟩,hb⟩
    have HB8:=Zz (bel_step HBw.o hb)
    have HD8:=Zz hD
    have HBy:=Zz (bytes_calls ls h300 (fun x hx=>(HMay.o.2.1 x hx).2) gd w8 hD)
    obtain ⟨F,hF⟩:∃ F,F = frontB ls:=⟨_,rfl⟩
    have HFe:=Zz hF
    rw [← hF] at HBy
    clear hD hb HNew hgd hF
    dsimp only
    go_wp2_with fail
    refine HBy.o.mono ?_
    rintro e w9 ⟨⟨v9,rfl,ho9⟩,hb⟩
    have HB9:=Zz (bel_step HB8.o hb)
    have HD9:Hid (DictAt w9 (fun _=>True) gd ls):=Zz (by
     obtain ⟨A,c,hc,hM⟩:=HD8.o
     exact ⟨A,c,(hb.cell (p:=⟨gd,0,none⟩) (cell_lt hc)).trans hc,strK.sl.mono (fun _ _ _=>trivial) (Kd.M_below (Kd.M_bound hM) hb)⟩)
    have hm9:=Kd.own_sl (ok:=TT) (ok':=fun _=>True) ho9 (fun _ _=>trivial) (fun _ _=>trivial)
    obtain ⟨A9,c9,rfl,_,_⟩:=Kd.own_slice ho9
    have HEq:=Zz (BytesEq.equal_calls F b A9 _ c9 c (fun _=>True) w9 hm9 (byteK.sl.mono (fun _ _ _=>trivial) (Kd.M_below HM.o HB9.o)))
    clear hm9 ho9 hb HBy HD8
    go_wp2_with fail
    refine HEq.o.mono ?_
    rintro e w10 ⟨rfl,rfl⟩
    by_cases hfb:F = b
    ·
     have HF:=Zz (readsF_parse HPs.o HMay.o (by rw [← HFe.o];exact hfb))
     rw [dT hfb]
     clear hfb HEq
     go_wp2
     go_ret2
     exact ⟨⟨some ls,HF.o,gd,rfl,HD9.o⟩,HB9.o⟩
    ·
     have HF:=Zz (readsF_not HPs.o (fun h=>hfb (by rw [HFe.o];exact h.2)))
     rw [dF hfb]
     clear hfb HEq
     go_wp2
     go_ret2
     exact ⟨⟨none,HF.o,rfl⟩,HB9.o⟩
   ·
    have HNew:=Zz (new_bad ls (by omega) (fun x hx=>by have:=HLs.o x hx;omega) hmay A4 c4 wr HM4.o)
    have HF:=Zz (readsF_not HPs.o (fun h=>hmay h.1))
    clear hmay
    go_wp2_with fail
    refine HNew.o.mono ?_
    rintro e w8 ⟨rfl,hb⟩
    have HB8:=Zz (bel_step HBw.o hb)
    clear hb HNew
    dsimp only
    go_wp2
    go_ret2
    exact ⟨⟨none,HF.o,rfl⟩,HB8.o⟩
end FrontW
namespace PackW
open Go.RowKit Go.Lib B Rd StoreW Clones PackP
def rowI (b:List UInt8) (n wd i k:Nat):List Nat:=(List.range n).map fun j=>if j < i then numB b (j * wd) wd else if j = i then numB b (i * wd) k else 0
theorem rowI_len (b:List UInt8) (n wd i k:Nat):(rowI b n wd i k).length = n:=by simp [rowI]
theorem rowI_at (b:List UInt8) (n wd i k:Nat) (h:i < n):(rowI b n wd i k)[i]'(by rw [rowI_len];exact h) = numB b (i * wd) k:=by simp [rowI]
theorem rowI_set (b:List UInt8) (n wd i k:Nat) (h:i < n):(rowI b n wd i k).set i (numB b (i * wd) (k + 1)) = rowI b n wd i (k + 1):=by
 refine List.ext_getElem (by simp [rowI]) fun j h1 h2=>?_
 rw [List.getElem_set]
 by_cases e:i = j
 ·
  subst e
  rw [if_pos rfl,rowI_at _ _ _ _ _ h]
 ·
  rw [if_neg e]
  have e':¬ j = i:=fun h=>e h.symm
  simp only [rowI,List.getElem_map,List.getElem_range,if_neg e']
theorem rowI_next (b:List UInt8) (n wd i:Nat):rowI b n wd i wd = rowI b n wd (i + 1) 0:=by
 refine List.ext_getElem (by simp [rowI]) fun j h1 h2=>?_
 simp only [rowI,List.getElem_map,List.getElem_range]
 by_cases h:j < i
 ·
  rw [if_pos h,if_pos (by omega)]
 ·
  rw [if_neg h]
  by_cases e:j = i
  ·
   subst e
   rw [if_pos rfl,if_pos (by omega)]
  ·
   rw [if_neg e,if_neg (by omega)]
   split <;> rfl
theorem rowI_zero (b:List UInt8) (n wd:Nat):rowI b n wd 0 0 = List.replicate n 0:=by
 refine List.ext_getElem (by simp [rowI]) fun j h1 h2=>?_
 simp only [rowI,List.getElem_map,List.getElem_range,List.getElem_replicate]
 rw [if_neg (by omega)]
 split <;> rfl
theorem rowI_end (b:List UInt8) (n wd:Nat):rowI b n wd n 0 = rowB b n wd:=by
 refine List.ext_getElem (by simp [rowI,rowB]) fun j h1 h2=>?_
 simp only [rowI,rowB,List.getElem_map,List.getElem_range]
 rw [if_pos (by simpa [rowB] using h2)]
theorem made_ints {W:World} {base g n:Nat} (hb:base ≤ g) (hn:n ≤ 1000000) (hh:W.heap[g]? = some (.cells (madeCells #[.int .i64 0] n) 3 (0,0))) :
  intK.own 3 W base TT (.slice (some ⟨g,0,none⟩) n n) (natZ (List.replicate n 0)):=by
 have e:natZ (List.replicate n 0) = List.replicate n (0:Int):=by simp [natZ]
 rw [e]
 refine Kd.own_make (z:=.int .i64 0) (by omega) rfl (fun _ _=>⟨rfl,by omega⟩) ⟨by simp,.inr ⟨g,n,_,rfl,hb,hh,lR _,by unfold maxLen;omega,by simp [madeCells],?_⟩⟩
 rw [toList_madeCells_one]
 simp
theorem bit_and (v:UInt8) (t:Nat):Go.bits .and .u8 ((v.toNat:Int) / 2 ^ t) 1 = ((v.toNat.testBit t).toNat:Int):=by
 have e:(v.toNat:Int) / 2 ^ t = ((v.toNat / 2 ^ t:Nat):Int):=by push_cast;rfl
 have hv:=v.toNat_lt
 have hd:v.toNat / 2 ^ t < 256:=Nat.lt_of_le_of_lt (Nat.div_le_self _ _) hv
 rw [e,Nat.toNat_testBit]
 generalize v.toNat / 2 ^ t = a at *
 have e2:Go.bits .and .u8 (a:Int) 1 = IntKind.u8.wrap (((BitVec.ofInt 8 (a:Int)).toNat &&& 1:Nat):Int):=by
  simp only [bits,BitVec.toNat_and]
  rfl
 rw [e2,ofInt_u8 a hd,show a &&& 1 = a % 2 from Nat.and_two_pow_sub_one_eq_mod a 1,IntKind.wrap_u8']
 omega
theorem or_num (x z k:Nat) (hx:x < 2 ^ k) (hz:z ≤ 1) (hk:k < 40):Go.bits .or .i64 (x:Int) ((z * 2 ^ k:Nat):Int) = ((x + z * 2 ^ k:Nat):Int):=by
 have hkk:∀ n:Int,0 ≤ n → n < 2 ^ 63 → IntKind.i64.wrap n = n:=fun n h0 h1=>by rw [IntKind.wrap_i64];omega
 have h40:(2:Nat) ^ k ≤ 2 ^ 40:=Nat.pow_le_pow_right (by decide) (by omega)
 have hz2:z * 2 ^ k ≤ 1 * 2 ^ k:=Nat.mul_le_mul_right _ hz
 have hp:((2:Int) ^ k) = ((2 ^ k:Nat):Int):=by push_cast;rfl
 rw [bits_join_low .i64 63 (by decide) hkk k (x:Int) ((z * 2 ^ k:Nat):Int) (by omega) (by rw [hp];omega) (by omega) (by omega) (by rw [hp];rw [← Int.natCast_emod];rw [Nat.mul_mod_left];rfl) (by omega)]
 omega
def UnpPost (b:List UInt8) (n wd:Nat) (w:World) (e:Ending) (w':World):Prop:=
 (∃ r,ReadsN b n wd r∧match r with
  | none=>e = .returned (.tuple #[.slice none 0 0,.int .i64 2])
  | some l=>∃ A c,e = .returned (.tuple #[.slice A l.length c,.int .i64 0])∧intK.sl.M w' (fun _=>True) (natZ l) [.slice A l.length c])∧Below w.heap.size w w'
theorem unpack_calls (b:List UInt8) (n wd:Nat) (hn:n ≤ 1000) (hw:wd ≤ 19) (A:Option Addr) (c:Nat) (w:World) (HL:byteK.sl.M w (fun _=>True) b [.slice A b.length c]) :
  Calls Tryz.prog 68 #[.slice A b.length c,.int .i64 n,.int .i64 wd] w (UnpPost b n wd w):=by
 have HM:=Zz (Kd.M_bound HL)
 obtain ⟨A',c',hv,h1,h2,h3,hr0⟩:=HL
 obtain ⟨rfl,rfl⟩:A = A'∧c = c':=by simpa using hv
 have HR:=Zz (Kd.row_mono (ok':=fun k=>k < w.heap.size) (fun k _ hk=>hk) hr0)
 clear hr0
 obtain ⟨m,hm⟩:∃ m,m = n * wd:=⟨_,rfl⟩
 have hmul:(n:Int) * (wd:Int) = (m:Int):=by rw [hm];rfl
 have hmb:m ≤ 20000:=by rw [hm];exact Nat.le_trans (Nat.mul_le_mul hn hw) (by decide)
 have hwm:IntKind.i64.wrap (m:Int) = (m:Int):=by rw [IntKind.wrap_i64];omega
 have HMm:=Zz hm
 obtain ⟨sz,hsz⟩:∃ sz,sz = (m + 7) / 8:=⟨_,rfl⟩
 have hszb:sz ≤ 2501:=by omega
 have HSz:=Zz hsz
 have HF:=Zz (fun w=>fits_calls n wd hn (by omega) w)
 have HS:=Zz (fun w=>size_calls m (by omega) w)
 rw [← hsz] at HS
 clear hm hsz
 by_cases hlen:b.length = sz
 case neg =>
  have hne:((b.length:Int) != (sz:Int)) = true:=by simp;omega
  have HN:=Zz (readsN_size (b:=b) (n:=n) (wd:=wd) (by rw [← HMm.o,← HSz.o];exact hlen))
  clear hlen
  go_enter Tryz.func68,Tryz.ntmps68
  go_wp2_with fail
  refine (HF.o _).mono ?_
  rintro e w2 ⟨rfl,rfl⟩
  go_wp2_with fail
  refine (HS.o _).mono ?_
  rintro e w3 ⟨rfl,rfl⟩
  go_wp2
  go_ret2
  exact ⟨⟨none,HN.o,rfl⟩,bR _ _⟩
 have hne:((b.length:Int) != (sz:Int)) = false:=by simp;omega
 have hmk:=run_make_row' (P:=Tryz.prog) 74 3 (.int .i64 0) 8 Tryz.underlying74 info_int rfl .i64 .i64 n (by omega) (by omega)
 have HB0:Hid (Below w.heap.size w (w.alloc (.cells (madeCells #[.int .i64 0] n) 3))):=Zz (bel_alloc (bR _ _) _)
 have HO0:Hid (intK.own 3 (w.alloc (.cells (madeCells #[.int .i64 0] n) 3)) w.heap.size TT (.slice (some ⟨w.heap.size,0,none⟩) n n) (natZ (rowI b n wd 0 0))):=Zz (by
  rw [rowI_zero]
  exact made_ints (lR _) (by omega) (Kd.heap_new _ _))
 generalize madeCells #[.int .i64 0] n = C0 at *
 have HLen:=Zz hlen
 have hbl:b.length ≤ 2501:=by omega
 clear hlen
 go_enter Tryz.func68,Tryz.ntmps68
 go_wp2_with fail
 refine (HF.o _).mono ?_
 rintro e w2 ⟨rfl,rfl⟩
 go_wp2_with fail
 refine (HS.o _).mono ?_
 rintro e w3 ⟨rfl,rfl⟩
 go_wp2
 go_loopw [29] (fun vi wr=>∃ i:Nat,vi = .int .i64 i∧i ≤ n∧Hid (intK.own 3 wr w.heap.size TT (.slice (some ⟨w.heap.size,0,none⟩) n n) (natZ (rowI b n wd i 0))∧Below w.heap.size w wr)) (fun vi _=>n - (intOf vi).toNat)
 case atStart=>exact ⟨0,rfl,by omega,Zz ⟨HO0.o,HB0.o⟩⟩
 case round =>
  obtain ⟨i,rfl,hiL,HI⟩:=hrel
  clear HO0 HB0 hmk
  by_cases hlt:i < n
  ·
   have hd:decide (i < n) = true:=dT hlt
   have ik:(i:Int) < (n:Int):=by omega
   obtain ⟨fr,hfr⟩:∃ fr,fr = i * wd:=⟨_,rfl⟩
   have hfri:(i:Int) * (wd:Int) = (fr:Int):=by rw [hfr];rfl
   have hfrb:fr + wd ≤ m:=by
    rw [hfr,HMm.o]
    have:=Nat.mul_le_mul_right wd (show i + 1 ≤ n from hlt)
    rw [Nat.succ_mul] at this
    exact this
   have HFr:=Zz hfr
   have HOi:=Zz HI.o.1
   have HBi:=Zz HI.o.2
   clear hfr HI
   go_wp2
   go_loopw [33] (fun vk wx=>∃ k:Nat,vk = .int .i64 k∧k ≤ wd∧Hid (intK.own 3 wx w.heap.size TT (.slice (some ⟨w.heap.size,0,none⟩) n n) (natZ (rowI b n wd i k))∧Below w.heap.size w wx)) (fun vk _=>wd - (intOf vk).toNat)
   case atStart=>exact ⟨0,rfl,by omega,Zz ⟨HOi.o,HBi.o⟩⟩
   case round =>
    obtain ⟨k,rfl,hkw,HK⟩:=hrel
    clear HOi HBi
    by_cases hkl:k < wd
    ·
     have hd2:decide (k < wd) = true:=dT hkl
     have hjs:(fr + k) / 8 < b.length:=by have:=HSz.o;have:=HLen.o;omega
     have jz:(((fr + k) / 8:Nat):Int) < (b.length:Int):=by omega
     have hzl:(natZ (rowI b n wd i k)).length = n:=by rw [natZ_len,rowI_len]
     obtain ⟨u,hcu,hu⟩:=Kd.own_cell (i:=i) rfl HK.o.1 (by omega)
     obtain ⟨x,hx⟩:∃ x:Nat,x = numB b fr k:=⟨_,rfl⟩
     have hux:u = .int .i64 (x:Int):=by
      have e1:(natZ (rowI b n wd i k))[i]'(by omega) = (x:Int):=by
       simp only [natZ,List.getElem_map]
       rw [rowI_at _ _ _ _ _ hlt,← HFr.o,← hx]
      rw [e1] at hu
      have h1:=hu.1
      simp at h1
      exact h1
     subst hux
     obtain ⟨ba,off,rfl,hcell⟩:=BoxWalk.u8_plain HR.o (by omega)
     have hcb:=(HK.o.2.cell (p:=⟨ba,off + (fr + k) / 8,none⟩) (cell_lt (hcell _ hjs))).trans (hcell _ hjs)
     obtain ⟨v,hv⟩:∃ v:UInt8,v = b[(fr + k) / 8]:=⟨_,rfl⟩
     rw [← hv] at hcb
     obtain ⟨z,hz⟩:∃ z,z = (v.toNat.testBit ((fr + k) % 8)).toNat:=⟨_,rfl⟩
     have hand:=bit_and v ((fr + k) % 8)
     rw [← hz] at hand
     have hz1:z ≤ 1:=by rw [hz];cases v.toNat.testBit ((fr + k) % 8) <;> simp
     have hx2:x < 2 ^ k:=by rw [hx];exact numB_lt _ _ _
     have hor:=or_num x z k hx2 hz1 (by omega)
     obtain ⟨y,hy⟩:∃ y,y = x + z * 2 ^ k:=⟨_,rfl⟩
     rw [← hy] at hor
     have HY:Hid (y = numB b fr (k + 1)):=Zz (by
      rw [hy,numB,← hx,hz]
      unfold bitB
      rw [List.getElem?_eq_getElem hjs,← hv]
      rfl)
     have hcp:=fun p:QT.Bel wr=>p.cell hcu
     have hbp:=fun p:QT.Bel wr=>p.cell hcb
     have HSet:Hid (∀ w2,Below wr.heap.size wr w2 → intK.own 3 (w2.setCell ⟨w.heap.size,i,none⟩ (.int .i64 (y:Int))) w.heap.size TT (.slice (some ⟨w.heap.size,0,none⟩) n n) (natZ (rowI b n wd i (k + 1)))∧Below w.heap.size w (w2.setCell ⟨w.heap.size,i,none⟩ (.int .i64 (y:Int)))∧w2.cell? ⟨w.heap.size,i,none⟩ = some (.int .i64 (x:Int))∧w2.frozen? ⟨w.heap.size,i,none⟩ = false):=Zz (fun w2 hb2=>by
      have h1:=Kd.own_below HK.o.1 hb2
      have hyb:y ≤ 1000000000:=by
       have h40:(2:Nat) ^ k ≤ 2 ^ 19:=Nat.pow_le_pow_right (by decide) (by omega)
       have hz2:z * 2 ^ k ≤ 1 * 2 ^ k:=Nat.mul_le_mul_right _ hz1
       omega
      have h2:=Kd.own_set (u:=.int .i64 (y:Int)) rfl h1 (i:=i) (by omega) (x:=(y:Int)) ⟨rfl,by omega⟩
      have e:(natZ (rowI b n wd i k)).set i (y:Int) = natZ (rowI b n wd i (k + 1)):=by
       rw [← rowI_set b n wd i k hlt,← HFr.o,← HY.o]
       simp [natZ]
      rw [e] at h2
      have hgl:=cell_lt hcu
      exact ⟨h2,bel_set (bel_step HK.o.2 hb2) (lR _) _,(hb2.cell (p:=⟨w.heap.size,i,none⟩) hgl).trans hcu,Kd.own_frozen h1 _⟩)
     have hzt:∀ t:Nat,t = z * 2 ^ k → IntKind.i64.wrap ((z:Int) * 2 ^ k) = (t:Int):=fun t ht=>by
      have hz3:(z:Int) * 2 ^ k = ((z * 2 ^ k:Nat):Int):=by push_cast;rfl
      have h40:(2:Nat) ^ k ≤ 2 ^ 19:=Nat.pow_le_pow_right (by decide) (by omega)
      have hz2:z * 2 ^ k ≤ 1 * 2 ^ k:=Nat.mul_le_mul_right _ hz1
      rw [hz3,← ht,IntKind.wrap_i64]
      omega
     obtain ⟨t,ht⟩:∃ t,t = z * 2 ^ k:=⟨_,rfl⟩
     have hzw:=hzt t ht
     rw [← ht] at hor
     clear hzt ht
     have ik19:(k:Int) ≤ 19:=by omega
     clear hu hx hz hy hv hcell HK
     go_upto_region 13 with fail
     refine QT.region_bel 18 (by kernel_rfl) (by kernel_rfl) ?_
     simp only [List.take_succ_cons,List.take_zero,List.drop_succ_cons,List.drop_zero]
     iterate 18 (go_big_quiet_step (fail))
     refine wpQuiet_nil ?_
     intro w2 hw'
     obtain ⟨⟨_,hb2⟩,rfl⟩:=hw'
     obtain ⟨h1',h2',hc2,hf2⟩:=HSet.o w2 hb2
     have HN1:=Zz h1'
     have HN2:=Zz h2'
     clear h1' h2' hb2 HSet hcp hcu hbp hcb
     go_wp2
     go_roundw
     case rel=>exact ⟨k + 1,by go_num,by omega,Zz ⟨HN1.o,HN2.o⟩⟩
     case measure=>simp [intOf];omega
    ·
     have hd2:decide (k < wd) = false:=dF hkl
     obtain rfl:k = wd:=by omega
     have HK2:Hid (intK.own 3 wr w.heap.size TT (.slice (some ⟨w.heap.size,0,none⟩) n n) (natZ (rowI b n k (i + 1) 0))):=Zz (by rw [← rowI_next];exact HK.o.1)
     have HB2:=Zz HK.o.2
     clear HK
     go_wp2
     go_roundw
     case rel=>exact ⟨i + 1,by go_num,by omega,Zz ⟨HK2.o,HB2.o⟩⟩
     case measure=>simp [intOf];omega
  ·
   have hd:decide (i < n) = false:=dF hlt
   obtain rfl:i = n:=by omega
   have HOw:=Zz HI.o.1
   have HBw:=Zz HI.o.2
   rw [rowI_end] at HOw
   have HRl:Hid ((rowB b i wd).length = i):=Zz (rowB_len _ _ _)
   have HRn:Hid (∀ x ∈ rowB b i wd,x ≤ 1000000∧Lib.bitLen x ≤ wd):=Zz (fun x hx=>by
    have h:=rowB_lt _ _ _ x hx
    have h40:(2:Nat) ^ wd ≤ 2 ^ 19:=Nat.pow_le_pow_right (by decide) (by omega)
    exact ⟨by omega,Lib.bitLen_le _ _ (by omega) h⟩)
   have HMi:=Zz (Kd.own_sl (ok:=TT) (ok':=fun _=>True) HOw.o (fun _ _=>trivial) (fun _ _=>trivial))
   have HPk:=Zz (pack_calls (rowB b i wd) wd (by omega) (by rw [HRl.o];omega) HRn.o (some ⟨w.heap.size,0,none⟩) i wr (Kd.M_bound (by rw [HRl.o];exact HMi.o)))
   rw [HRl.o] at HPk
   obtain ⟨F,hF⟩:∃ F,F = packB (rowB b i wd) wd:=⟨_,rfl⟩
   have HFe:=Zz hF
   rw [← hF] at HPk
   clear HI hF HOw
   go_wp2_with fail
   refine HPk.o.mono ?_
   rintro e w4 ⟨⟨v4,rfl,ho4⟩,hb4⟩
   have HB4:=Zz (bel_step HBw.o hb4)
   have hm4:=Kd.own_sl (ok:=TT) (ok':=fun _=>True) ho4 (fun _ _=>trivial) (fun _ _=>trivial)
   obtain ⟨A4,c4,rfl,_,_⟩:=Kd.own_slice ho4
   have HEq:=Zz (BytesEq.equal_calls F b A4 A c4 c (fun _=>True) w4 hm4 (byteK.sl.mono (fun _ _ _=>trivial) (Kd.M_below HM.o HB4.o)))
   have HM4:Hid (intK.sl.M w4 (fun _=>True) (natZ (rowB b i wd)) [.slice (some ⟨w.heap.size,0,none⟩) i i]):=Zz (intK.sl.mono (fun _ _ _=>trivial) (Kd.M_below (Kd.M_bound HMi.o) hb4))
   clear ho4 hb4 hm4 HPk
   dsimp only
   go_wp2_with fail
   refine HEq.o.mono ?_
   rintro e w5 ⟨rfl,rfl⟩
   by_cases hfb:F = b
   ·
    have HF:=Zz (readsN_row (b:=b) (n:=i) (wd:=wd) (by rw [← HFe.o];exact hfb))
    rw [dT hfb]
    clear hfb HEq
    go_wp2
    go_ret2
    exact ⟨⟨some (rowB b i wd),HF.o,some ⟨w.heap.size,0,none⟩,i,(by rw [HRl.o];try rfl),(by rw [HRl.o];exact HM4.o)⟩,HB4.o⟩
   ·
    have HF:=Zz (readsN_not (b:=b) (n:=i) (wd:=wd) (by rw [← HFe.o];exact hfb))
    rw [dF hfb]
    clear hfb HEq
    go_wp2
    go_ret2
    exact ⟨⟨none,HF.o,rfl⟩,HB4.o⟩
end PackW
end Go.Proofs.YtnplommdgfgboaaGreatDoor
