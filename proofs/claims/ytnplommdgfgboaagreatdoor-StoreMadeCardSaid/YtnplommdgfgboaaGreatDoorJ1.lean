/-
  Texts of the claim, one behind the other: Base, HeldZ, HeldZ2, HeldS, Frame, Rd, Utf, TermPure, Tx, Shelf, SB, Env, Card, MonoD, SortRow, Bld, LinesPure.
-/
import Derived.WalkKit
import Derived.Maps.AppendAt
import Derived.Lib.Hide
import Derived.Deep.Draws
import Derived.ArgAppend
import Derived.Laws.BytesArg
import Derived.Laws.BytesString
import Derived.Lib.ConvBytes
import Derived.OrdersHeld
import Derived.Deep.RegionHeld3
import Derived.StillTail
import Derived.OwnWalk
import Derived.ProofKit
import Derived.Deep.Slices
import Derived.SizedLaws
import Derived.Test.YtnplommdgfgboaaGreatDoorProg
import Derived.WalkSpells
import Derived.Lib.Strings
import Derived.WalkLawsBesides
import Derived.Deep.LoopGhost
import Derived.Deep.QuietTactic
import Derived.BigQuiet
import Derived.Deep.DeepCutAuto
import Derived.Lib.MapLaws
import Derived.Lib.ValidLaws
import Derived.Lib.TrimAscii
import Derived.Laws.Cover4
import Derived.Laws.IdiomStrings
import Derived.Lib.TrimUEq
import Derived.Shelf.SlSortCmp.NoneTotal
import Derived.Shelf.Unicode.ValidAny
import Derived.Shelf.Strings.SlTrimAscii
import Derived.Shelf.Strings.Builder1
import Derived.Shelf.Strings.Builder2
import Derived.Shelf.Strings.OnBuilder
import Derived.Shelf.Strings.Trim
import Derived.Shelf.Small.Utf8
import Derived.Shelf.Small.Bits
import Derived.Shelf.Small.Strs
import Derived.Shelf.Small.Wraps
import Derived.Shelf.Strings.BuilderF
import Derived.Shelf.Strings.BuilderK
import Derived.Shelf.Strings.BuilderRune
import Derived.Shelf.Utf8.AppendRune
import Derived.Shelf.Utf8.AppendRunePlain
import Derived.Shelf.Strings.Builder2Cap
import Derived.Shelf.Strconv.Itoa0
import Derived.Shelf.Strings.Search1
import Derived.Shelf.Strings.Search2
import Derived.Shelf.Strings.Search3
import Derived.Shelf.Strings.Cut
import Derived.Shelf.Strings.Count
import Derived.Shelf.LaysM
import Derived.Shelf.Strings.Shaped
import Derived.Shelf.GgClosure.StringsIndexFunc
import Derived.Shelf.GgClosure.StringsTrimFunc
import Derived.Ground.GgwProg
import Derived.Shelf.GgClosure.StringsIndexFuncTop
import Derived.Shelf.GgClosure.StringsRunes
import Derived.Shelf.Strings.Prefix
import Derived.Shelf.Strings.Split
import Derived.Shelf.Strings.SplitShaped
import Derived.Shelf.Unicode.Latin
import Derived.Shelf.Unicode.Decode
import Derived.Shelf.Strings.Runes
import Derived.Shelf.Strings.RuneCount
import Derived.Shelf.Strings.AsciiSet
import Derived.Shelf.Strings.Explode
import Derived.Shelf.Unicode.DecodeSlow
import Derived.Shelf.Unicode.DecodeAny
import Derived.Shelf.Unicode.CaseLookup
import Derived.Shelf.Unicode.CaseConvert
import Derived.Shelf.Unicode.CaseTo
import Derived.Shelf.Unicode.CaseLaid
import Derived.Shelf.Strings.MapAny
import Derived.Shelf.Strings.CaseAny
import Derived.Shelf.Strings.FuncGrows
import Derived.Shelf.Strings.BuilderCap
import Derived.Shelf.Strings.MapGrows
import Derived.Lib.LaidU8
import Derived.Test.YtnplommdgfgboaaGreatDoorRows
import Derived.Deep.DeepHandedRow
import Derived.Deep.DeepWitnessRowRef
import Derived.Lib.LaidCaseMet
import Derived.PinnedBridge
import Derived.Calls
import Derived.RunT
import Derived.StepT
import Derived.Below
import Derived.Sort.Grow
import Derived.Lib.Case
set_option linter.unusedVariables false
set_option linter.unusedSimpArgs false
set_option maxHeartbeats 25600000
set_option maxRecDepth 100000
namespace Go
open RowKit
theorem Zz {p:Prop} (h:p):RowKit.Hid p:=Lib.hid h
theorem RowKit.Hid.o {p:Prop} (h:RowKit.Hid p):p:=h.out
theorem dT {p:Prop} [Decidable p] (h:p):decide p = true:=decide_eq_true h
theorem dF {p:Prop} [Decidable p] (h:¬p):decide p = false:=decide_eq_false h
theorem bR (B:Nat) (w:World):Below B w w:=Below.refl B w
theorem lR (n:Nat):n ≤ n:=Nat.le_refl n
theorem fx {a:Option Func} {b c:Func} (h:a = some b) (k:b = c:=by kernel_rfl):a = some c:=h.trans (congrArg some k)
theorem Za {α:Type} (x y z:List α):x ++ y ++ z = x ++ (y ++ z):=List.append_assoc x y z
theorem Zl {α:Type} {x y:List α}:(x ++ y).length = x.length + y.length:=List.length_append
theorem Zb {α:Type} [BEq α] [LawfulBEq α] {a b:α}:(a == b) = false ↔ a ≠ b:=beq_eq_false_iff_ne
theorem Zt {α:Type} {i:Nat} {l:List α} (h:i < l.length):l.take (i + 1) = l.take i ++ [l[i]]:=List.take_succ_eq_append_getElem h
theorem Zo (w:World) (a b:Addr) (v:Value):a ≠ b → (w.setCell a v).cell? b = w.cell? b:=World.cell?_setCell_other w a b v
theorem Zw (n:Int):IntKind.i64.wrap n = (n + 9223372036854775808) % 18446744073709551616 - 9223372036854775808:=IntKind.wrap_i64 n
theorem Zg {α:Type} {l:List α} {i:Nat} (h:i < l.length):l[i]? = some l[i]:=List.getElem?_eq_getElem h
theorem Zm {α:Type} {l:List α} {n:Nat} (h:n < l.length):l[n] ∈ l:=List.getElem_mem h
theorem Zn {α:Type} {l:List α}:l.length = 0 → l = []:=List.eq_nil_of_length_eq_zero
theorem Zc {α:Type} {a:α} {l:List α}:(a :: l).length = l.length + 1:=List.length_cons
theorem Ze {α:Type} (l:List α):l ++ [] = l:=List.append_nil l
theorem Zf {α:Type} (l:List α):[] ++ l = l:=List.nil_append l
theorem Zh {n m k:Nat} (h:n ≤ m) (g:m ≤ k):n ≤ k:=Nat.le_trans h g
theorem Zi {α:Type} {i:Nat} {l:List α}:(l.take i).length = min i l.length:=List.length_take
theorem Zj {α:Type} {i:Nat} {l:List α}:(l.drop i).length = l.length - i:=List.length_drop
theorem Zk {α:Type} {a:α} {s t:List α}:a ∈ s ++ t ↔ a ∈ s ∨ a ∈ t:=List.mem_append
theorem Zs {α:Type}:(∀ (xs:List α) (i:Nat) (h:i < xs.toArray.size),xs.toArray[i] = xs[i]'(by simpa using h))∧(∀ (a:α) (l:List α) (h:0 < (a :: l).length),(a :: l)[0] = a)∧(∀ (a:α) (l:List α) (i:Nat) (h:i + 1 < (a :: l).length),(a :: l)[i + 1] = l[i]'(by simpa using h)):=⟨fun xs i h=>List.getElem_toArray h,fun a l h=>rfl,fun a l i h=>rfl⟩
end Go
open Go.Proofs.Tryz
namespace Go.Proofs.YtnplommdgfgboaaGreatDoor
namespace B
open Go.RowKit
theorem ret_int {k:IntKind} {a b:Int} (h:a = b):Ending.returned (.int k a) = .returned (.int k b):=by rw [h]
theorem ret_bool {a b:Bool} (h:a = b):Ending.returned (.bool a) = .returned (.bool b):=by rw [h]
theorem add_add (a:Addr) (i j:Nat):(a.add i).add j = a.add (i + j):=by
 unfold Addr.add
 split <;> split <;> simp_all <;> omega
theorem add_block (a:Addr) (i:Nat):(a.add i).block = a.block:=by unfold Addr.add;split <;> rfl
theorem add_plain (g j:Nat):(⟨g,0,none⟩:Addr).add j = ⟨g,j,none⟩:=by unfold Addr.add;split <;> simp_all
theorem cell_lt {w:World} {a:Addr} {v:Value} (h:w.cell? a = some v):a.block < w.heap.size:=World.block_lt_of_cell? w a h
theorem cell_same {w w1:World} {a:Addr} {v:Value} (h:w.cell? a = some v) (hm:w1.heap[a.block]? = w.heap[a.block]?):w1.cell? a = some v:=(World.cell?_of_block hm).trans h
theorem bel_alloc {w W:World} (h:Below w.heap.size w W) (o:Obj):Below w.heap.size w (W.alloc o):=h.alloc h.size o
theorem bel_drew {w W:World} (h:Below w.heap.size w W):Below w.heap.size w W.drew:=h.drew
theorem bel_drewN {w W:World} (h:Below w.heap.size w W) (n:Nat):Below w.heap.size w (W.drewN n):=⟨h.os,h.tape,h.output,h.size,h.block⟩
theorem bel_step {w W W':World} (h:Below w.heap.size w W) (k:Below W.heap.size W W'):Below w.heap.size w W':=h.trans (k.mono h.size)
theorem bel_set {w W:World} (h:Below w.heap.size w W) {g j:Nat} (hg:w.heap.size <= g) (u:Value):Below w.heap.size w (W.setCell ⟨g,j,none⟩ u):=h.setCell hg u
structure Kd (α:Type) where
 sz:Nat
 pos:0 < sz
 M:World -> (Nat -> Prop) -> α -> List Value -> Prop
 len:∀ {w ok x cs},M w ok x cs -> cs.length = sz
 one:∀ {w ok x cs},M w ok x cs -> ∀ u ∈ cs,u.oneCell' = true
 mono:∀ {w:World} {ok ok':Nat -> Prop} {x cs},(∀ k,ok k -> k < w.heap.size -> ok' k) -> M w ok x cs -> M w ok' x cs
 move:∀ {w w1:World} {ok:Nat -> Prop} {x cs},(∀ k,ok k -> k < w.heap.size -> w1.heap[k]? = w.heap[k]?) -> M w ok x cs -> M w1 ok x cs
def flat {α:Type} (sz:Nat) (pos:0 < sz) (enc:α -> List Value) (hl:∀ x,(enc x).length = sz) (h1:∀ x,∀ u ∈ enc x,u.oneCell' = true):Kd α where
 sz:=sz
 pos:=pos
 M:=fun _ _ x cs=>cs = enc x
 len:=fun h=>by rw [h];exact hl _
 one:=fun h=>by rw [h];exact h1 _
 mono:=fun _ h=>h
 move:=fun _ h=>h
def byteK:Kd UInt8:=flat 1 (by decide) (fun c=>[.int .u8 (c.toNat:Int)]) (fun _=>rfl) (fun _ u hu=>by simp at hu;subst hu;rfl)
def held {α:Type} (sz:Nat) (pos:0 < sz) (enc:α -> List Value) (fits:α -> Prop) (hl:∀ x,(enc x).length = sz) (h1:∀ x,∀ u ∈ enc x,u.oneCell' = true):Kd α where
 sz:=sz
 pos:=pos
 M:=fun _ _ x cs=>cs = enc x/\fits x
 len:=fun h=>by rw [h.1];exact hl _
 one:=fun h=>by rw [h.1];exact h1 _
 mono:=fun _ h=>h
 move:=fun _ h=>h
def strK:Kd ByteArray:=held 1 (by decide) (fun n=>[.string n]) (fun n=>n.size <= 140737488355328) (fun _=>rfl) (fun _ u hu=>by simp at hu;subst hu;rfl)
theorem u8_lit (l:List UInt8) (i:Nat) (x:UInt8) (h:l[i]? = some x):(((l.map fun c=>Value.int .u8 (c.toNat:Int)).drop (i * 1)).take 1) = [.int .u8 (x.toNat:Int)]:=by
 have hi:i < l.length:=(List.getElem?_eq_some_iff.1 h).1;rw [Nat.mul_one,<- List.map_drop,<- List.map_take,List.drop_eq_getElem_cons hi];rw [Zg hi] at h;cases h;rfl
def intK:Kd Int:=held 1 (by decide) (fun n=>[.int .i64 n]) (fun n=>-9223372036854775808 <= n/\n <= 9223372036854775807) (fun _=>rfl) (fun _ u hu=>by simp at hu;subst hu;rfl)
namespace Kd
variable {α : Type} {d : Kd α} {w w1 : World} {ok ok' : Nat → Prop} {A : Option Addr} {xs ys : List α} {e : TypeId} {base : Nat} {v : Value}
def row (d:Kd α) (w:World) (ok:Nat -> Prop) (A:Option Addr) (xs:List α):Prop:=
 ∀ i x,xs[i]? = some x -> ∃ ad cs,A = some ad/\ok ad.block/\d.M w ok x cs/\∀ j u,cs[j]? = some u -> w.cell? (ad.add (i * d.sz + j)) = some u
theorem row_nil (d:Kd α) (w:World) (ok:Nat -> Prop) (A:Option Addr):d.row w ok A []:=fun i x h=>by simp at h
theorem row_lt {ad:Addr} {i:Nat} {cs:List Value} (hl:cs.length = d.sz) (h:∀ j u,cs[j]? = some u -> w.cell? (ad.add (i * d.sz + j)) = some u):ad.block < w.heap.size:=by
 have hp:=d.pos;have h0:cs[0]? = some (cs[0]'(by omega)):=Zg (by omega);have:=cell_lt (h 0 _ h0)
 rwa [add_block] at this
theorem row_mono (hok:∀ k,ok k -> k < w.heap.size -> ok' k) (h:d.row w ok A xs):d.row w ok' A xs:=fun i x hx=>by
 obtain ⟨ad,cs,hA,ho,hM,hc⟩:=h i x hx
 exact ⟨ad,cs,hA,hok _ ho (row_lt (d.len hM) hc),d.mono hok hM,hc⟩
theorem row_move (hm:∀ k,ok k -> k < w.heap.size -> w1.heap[k]? = w.heap[k]?) (h:d.row w ok A xs):d.row w1 ok A xs:=fun i x hx=>by
 obtain ⟨ad,cs,hA,ho,hM,hc⟩:=h i x hx
 have hlt:=row_lt (d.len hM) hc
 exact ⟨ad,cs,hA,ho,d.move hm hM,fun j u hu=>cell_same (hc j u hu) (by rw [add_block];exact hm _ ho hlt)⟩
theorem row_below (h:d.row w ok A xs) (hb:Below w.heap.size w w1):d.row w1 ok A xs:=row_move (fun k _ hk=>hb.block k hk) h
theorem M_below {x:α} {cs:List Value} (h:d.M w ok x cs) (hb:Below w.heap.size w w1):d.M w1 ok x cs:=d.move (fun k _ hk=>hb.block k hk) h
theorem row_at (h:d.row w ok A xs) {i:Nat} (hi:i < xs.length):∃ ad cs,A = some ad/\d.M w ok xs[i] cs/\∀ j u,cs[j]? = some u -> w.cell? (ad.add (i * d.sz + j)) = some u:=by
 obtain ⟨ad,cs,h1,_,h3,h4⟩:=h i xs[i] (Zg hi);exact ⟨ad,cs,h1,h3,h4⟩
theorem row_addr (h:d.row w ok A xs) (hp:0 < xs.length):∃ b off,A = some ⟨b,off,none⟩/\ok b/\b < w.heap.size/\∀ i (hi:i < xs.length),∃ cs,d.M w ok xs[i] cs/\∀ j u,cs[j]? = some u -> w.cell? ⟨b,off + i * d.sz + j,none⟩ = some u:=by
 obtain ⟨ad,cs,hA,ho,hM,hc⟩:=h 0 xs[0] (Zg hp);obtain ⟨b,off,spot⟩:=ad;have hl:=d.len hM;have hpos:=d.pos;have h0:=hc 0 cs[0] (Zg (by omega));rw [Nat.zero_mul,Nat.zero_add,Addr.add_zero'] at h0;have hs:spot = none:=by simpa using World.cell?_spot h0
 subst hs;refine ⟨b,off,hA,ho,cell_lt h0,fun i hi=>?_⟩;obtain ⟨ad',cs',hA',_,hM',hc'⟩:=h i xs[i] (Zg hi);rw [hA] at hA';cases hA';refine ⟨cs',hM',fun j u hu=>?_⟩;have h2:=hc' j u hu;rw [Addr.add_lit,<- Nat.add_assoc] at h2;exact h2
theorem row_old {w0:World} (h:d.row w0 (fun k=>k < w0.heap.size) A xs) (hb:Below w0.heap.size w0 w):d.row w (fun k=>k < w0.heap.size) A xs:=row_move (fun k hk _=>hb.block k hk) h
theorem M_old {w0:World} {x:α} {cs:List Value} (h:d.M w0 (fun k=>k < w0.heap.size) x cs) (hb:Below w0.heap.size w0 w):d.M w (fun k=>k < w0.heap.size) x cs:=d.move (fun k hk _=>hb.block k hk) h
theorem M_bound {x:α} {cs:List Value} (h:d.M w ok x cs):d.M w (fun k=>k < w.heap.size) x cs:=d.mono (fun k _ hk=>hk) h
theorem row_plain (h1:d.sz = 1) (h:d.row w ok A xs) (hp:0 < xs.length):∃ b off,A = some ⟨b,off,none⟩/\ok b/\∀ i (hi:i < xs.length),∃ u,w.cell? ⟨b,off + i,none⟩ = some u/\d.M w ok xs[i] [u]:=by
 obtain ⟨ad,cs,hA,ho,hM,hc⟩:=h 0 xs[0] (Zg hp);obtain ⟨b,off,spot⟩:=ad;have hl:=d.len hM;rw [h1] at hl;obtain ⟨u,rfl⟩:∃ u,cs = [u]:=by
  match cs,hl with
  | [u],_=>exact ⟨u,rfl⟩
 have h0:=hc 0 u rfl;rw [Nat.zero_mul,Nat.zero_add,Addr.add_zero'] at h0;have hs:spot = none:=by simpa using World.cell?_spot h0
 subst hs;refine ⟨b,off,hA,ho,fun i hi=>?_⟩;obtain ⟨ad',cs',hA',_,hM',hc'⟩:=h i xs[i] (Zg hi);rw [hA] at hA';cases hA';have hl':=d.len hM';rw [h1] at hl';obtain ⟨u',rfl⟩:∃ u,cs' = [u]:=by
  match cs',hl' with
  | [u],_=>exact ⟨u,rfl⟩
 have h2:=hc' 0 u' rfl;rw [h1,Nat.mul_one,Nat.add_zero,Addr.add_lit] at h2;exact ⟨u',h2,hM'⟩
theorem row_take (h:d.row w ok A xs) (n:Nat):d.row w ok A (xs.take n):=fun i x hx=>by
 rw [List.getElem?_take] at hx
 split at hx
 ·
  exact h i x hx
 ·
  cases hx
theorem row_drop (h:d.row w ok A xs) (n:Nat):d.row w ok (A.map (·.add (n * d.sz))) (xs.drop n):=fun i x hx=>by
 rw [List.getElem?_drop] at hx
 obtain ⟨ad,cs,hA,ho,hM,hc⟩:=h _ x hx
 refine ⟨ad.add (n * d.sz),cs,by rw [hA];rfl,by rw [add_block];exact ho,hM,fun j u hu=>?_⟩
 rw [add_add,<- Nat.add_assoc,<- Nat.add_mul]
 exact hc j u hu
def sl (d:Kd α):Kd (List α) where
 sz:=1
 pos:=by decide
 M:=fun w ok xs cs=>∃ A c,cs = [.slice A xs.length c]/\xs.length <= c/\(xs.length <= 140737488355328/\c <= maxLen)/\(A = none -> c = 0)/\d.row w ok A xs
 len:=fun ⟨_,_,h,_⟩=>by rw [h];rfl
 one:=fun ⟨_,_,h,_⟩ u hu=>by rw [h] at hu;simp at hu;subst hu;rfl
 mono:=fun hok ⟨A,c,h1,h2,h3,h4,h5⟩=>⟨A,c,h1,h2,h3,h4,row_mono hok h5⟩
 move:=fun hm ⟨A,c,h1,h2,h3,h4,h5⟩=>⟨A,c,h1,h2,h3,h4,row_move hm h5⟩
def own (d:Kd α) (e:TypeId) (w:World) (base:Nat) (ok:Nat -> Prop) (v:Value) (xs:List α):Prop:=
 xs.length <= 140737488355328/\∃ cells,w.ownsRow base e d.sz v xs.length cells/\∀ i x,xs[i]? = some x -> d.M w (fun k=>ok k/\some k ≠ v.ownBlock) x ((cells.drop (i * d.sz)).take d.sz)
theorem own_nil (d:Kd α) (e:TypeId) (w:World) (base:Nat) (ok:Nat -> Prop):d.own e w base ok (.slice none 0 0) []:=
 ⟨by simp,[],World.ownsRow_nil _ _ _ _,fun i x h=>by simp at h⟩
theorem own_lt (h:d.own e w base ok v xs):∀ k,v.ownBlock = some k -> base <= k/\k < w.heap.size:=by
 obtain ⟨_,cells,h1,_⟩:=h;exact h1.lt
theorem ownsRow_move {size n:Nat} {cells:List Value} (h:w.ownsRow base e size v n cells) (hm:∀ k,v.ownBlock = some k -> k < w.heap.size -> w1.heap[k]? = w.heap[k]?):w1.ownsRow base e size v n cells:=by
 obtain ⟨h1,h2⟩:=h;refine ⟨h1,?_⟩;rcases h2 with h2 | ⟨g,cap,cur,rfl,hg,hh,r⟩
 ·
  exact .inl h2
 ·
  have hlt:g < w.heap.size:=(Array.getElem?_eq_some_iff.1 hh).1;exact .inr ⟨g,cap,cur,rfl,hg,(hm g rfl hlt).trans hh,r⟩
theorem own_move (hm:∀ k,(ok k \/ v.ownBlock = some k) -> k < w.heap.size -> w1.heap[k]? = w.heap[k]?) (h:d.own e w base ok v xs):d.own e w1 base ok v xs:=by
 obtain ⟨h0,cells,h1,h2⟩:=h;exact ⟨h0,cells,ownsRow_move h1 (fun k hk hlt=>hm k (.inr hk) hlt),fun i x hx=>d.move (fun k hk hlt=>hm k (.inl hk.1) hlt) (h2 i x hx)⟩
theorem own_below (h:d.own e w base ok v xs) (hb:Below w.heap.size w w1):d.own e w1 base ok v xs:=own_move (fun k _ hk=>hb.block k hk) h
theorem own_alloc (h:d.own e w base ok v xs) (o:Obj):d.own e (w.alloc o) base ok v xs:=own_below h ((bR _ _).alloc (lR _) o)
theorem own_lower {base':Nat} (hb:base' <= base) (h:d.own e w base ok v xs):d.own e w base' ok v xs:=by
 obtain ⟨h0,cells,⟨h1,h2⟩,h3⟩:=h;refine ⟨h0,cells,⟨h1,?_⟩,h3⟩;rcases h2 with h2 | ⟨g,cap,cur,rfl,hg,r⟩
 ·
  exact .inl h2
 ·
  exact .inr ⟨g,cap,cur,rfl,by omega,r⟩
theorem own_drew (h:d.own e w base ok v xs):d.own e w.drew base ok v xs:=own_move (w:=w) (w1:=w.drew) (fun _ _ _=>rfl) h
theorem own_grown {row:Option Nat} (h:d.own e w base ok v xs) (hg:w.grownBy w1 row) (h1:∀ k,ok k -> some k ≠ row) (h2:∀ k,v.ownBlock = some k -> some k ≠ row):d.own e w1 base ok v xs:=
 own_move (fun k hk hlt=>hg.block k hlt (hk.elim (h1 k) (h2 k))) h
theorem take_drop_get {cells:List Value} {i s j:Nat} {u:Value} (h:((cells.drop (i * s)).take s)[j]? = some u):cells[i * s + j]? = some u:=by
 rw [List.getElem?_take] at h
 split at h
 ·
  rwa [List.getElem?_drop] at h
 ·
  cases h
theorem own_sl (h:d.own e w base ok v xs) (h1:∀ k,base <= k -> ok' k) (h2:∀ k,ok k -> ok' k):d.sl.M w ok' xs [v]:=by
 obtain ⟨hlen,cells,ho,hr⟩:=h;rcases ho.2 with ⟨rfl,h0⟩ | ⟨g,cap,cur,rfl,hg,hh,hnc,hcm,hcs,htake⟩
 ·
  obtain rfl:xs = []:=Zn h0;exact ⟨none,0,rfl,lR _,⟨hlen,Nat.zero_le _⟩,fun _=>rfl,row_nil _ _ _ _⟩
 ·
  refine ⟨_,cap,rfl,hnc,⟨hlen,hcm⟩,fun h=>(by cases h),fun i x hx=>⟨_,_,rfl,h1 g hg,d.mono (fun k hk _=>h2 k hk.1) (hr i x hx),fun j u hu=>?_⟩⟩;exact ho.cells rfl _ _ (take_drop_get hu)
theorem own_slice (h:d.own e w base ok v xs):∃ A c,v = .slice A xs.length c/\xs.length <= c/\(A = none -> c = 0):=by
 obtain ⟨A,c,h1,h2,_,h3,_⟩:=own_sl (ok':=fun _=>True) h (fun _ _=>trivial) (fun _ _=>trivial);simp at h1;exact ⟨A,c,h1,h2,h3⟩
theorem own_block {g:Nat} {cells:List Value} (hb:base <= g) (hh:w.heap[g]? = some (.cells cells.toArray e (0,0))) (hl:cells.length = xs.length * d.sz) (hm:xs.length <= 140737488355328)
  (hr:∀ i x,xs[i]? = some x -> d.M w (fun k=>ok k/\k ≠ g) x ((cells.drop (i * d.sz)).take d.sz)):d.own e w base ok (.slice (some ⟨g,0,none⟩) xs.length xs.length) xs:=by
 refine ⟨hm,cells,⟨hl,.inr ⟨g,_,_,rfl,hb,hh,lR _,by unfold maxLen;omega,by simpa using hl,?_⟩⟩,fun i x hx=>d.mono (fun k hk _=>⟨hk.1,fun e=>hk.2 (by simpa [Value.ownBlock] using e)⟩) (hr i x hx)⟩;show cells.take _ = cells;rw [List.take_of_length_le (by omega)]
theorem own_form (h:d.own e w base ok v xs) (hp:0 < xs.length):∃ g cap,v = .slice (some ⟨g,0,none⟩) xs.length cap/\base <= g/\g < w.heap.size/\xs.length <= cap:=by
 obtain ⟨_,cells,ho,hr⟩:=h;rcases ho.2 with ⟨rfl,h0⟩ | ⟨g,cap,cur,rfl,hg,hh,hnc,hcm,hcs,htake⟩
 ·
  omega
 ·
  exact ⟨g,cap,rfl,hg,(Array.getElem?_eq_some_iff.1 hh).1,hnc⟩
theorem own_frozen {g n cap:Nat} (h:d.own e w base ok (.slice (some ⟨g,0,none⟩) n cap) xs) (j:Nat):w.frozen? ⟨g,j,none⟩ = false:=by
 obtain ⟨_,cells,ho,_⟩:=h;rcases ho.2 with ⟨h,_⟩ | ⟨g',cap,cur,he,_,hh,_⟩
 ·
  simp at h
 ·
  simp at he;obtain ⟨rfl,_⟩:=he;simp [World.frozen?,hh]
theorem own_cell (h1:d.sz = 1) {g n cap:Nat} (h:d.own e w base ok (.slice (some ⟨g,0,none⟩) n cap) xs) {i:Nat} (hi:i < xs.length) :
  ∃ u,w.cell? ⟨g,i,none⟩ = some u/\d.M w (fun k=>ok k/\k ≠ g) xs[i] [u]:=by
 obtain ⟨_,cells,ho,hr⟩:=h;have hM:=hr i xs[i] (Zg hi);have hl:=ho.1;rw [h1,Nat.mul_one] at hl hM;have hic:i < cells.length:=by omega
 have he:(cells.drop i).take 1 = [cells[i]]:=by rw [List.drop_eq_getElem_cons hic];rfl
 rw [he] at hM;refine ⟨cells[i],?_,d.mono (fun k hk _=>⟨hk.1,fun e=>hk.2 (by rw [e];rfl)⟩) hM⟩;have:=ho.cells rfl i cells[i] (Zg hic)
 rwa [add_plain] at this
theorem own_set (h1:d.sz = 1) {g n cap:Nat} (h:d.own e w base ok (.slice (some ⟨g,0,none⟩) n cap) xs) {i:Nat} (hi:i < xs.length) {x:α} {u:Value} (hM:d.M w (fun k=>ok k/\k ≠ g) x [u]) :
  d.own e (w.setCell ⟨g,i,none⟩ u) base ok (.slice (some ⟨g,0,none⟩) n cap) (xs.set i x):=by
 obtain ⟨hlen,cells,ho,hr⟩:=h;have hl:=ho.1;rw [h1,Nat.mul_one] at hl;have hmv:∀ k,(ok k/\some k ≠ (Value.slice (some ⟨g,0,none⟩) n cap).ownBlock) -> k < w.heap.size -> (w.setCell ⟨g,i,none⟩ u).heap[k]? = w.heap[k]?:=fun k hk _ =>
  Below.heap_setCell _ _ _ _ (fun e=>hk.2 (by rw [e];rfl))
 have hst:(w.setCell ⟨g,i,none⟩ u).ownsRow base e d.sz (.slice (some ⟨g,0,none⟩) n cap) xs.length (cells.set i u):=by
  have hn:n = xs.length:=by
   rcases ho.2 with ⟨h0,_⟩ | ⟨g',cap',cur,he,_⟩
   ·
    simp at h0
   ·
    simp at he;exact he.2.1
  subst hn;exact (ho.stored i u).1
 refine ⟨by rw [List.length_set];exact hlen,cells.set i u,by rw [List.length_set];exact hst,fun j y hj=>?_⟩;rw [List.getElem?_set] at hj;have hset:((cells.set i u).drop j).take 1 = if i = j then [u] else (cells.drop j).take 1:=by
  apply List.ext_getElem?;intro q;rw [List.getElem?_take,List.getElem?_drop,List.getElem?_set];cases q with
  | zero =>
   by_cases hij:i = j
   ·
    subst hij;have hic:i < cells.length:=by omega
    simp [hic]
   ·
    simp [hij]
  | succ q =>
   have e2:(if i = j then [u] else (cells.drop j).take 1)[q + 1]? = none:=by split <;> simp <;> omega
   rw [if_neg (by omega),e2]
 rw [h1,Nat.mul_one,hset]
 split at hj
 ·
  rename_i hij
  subst hij;simp [hi] at hj;subst hj;rw [if_pos rfl];exact d.move hmv (d.mono (fun k hk _=>⟨hk.1,fun e=>hk.2 (by simpa [Value.ownBlock] using e)⟩) hM)
 ·
  rename_i hij
  rw [if_neg hij];have h2:=hr j y hj;rw [h1,Nat.mul_one] at h2;exact d.move hmv h2
theorem heap_new (w:World) (o:Obj):(w.alloc o).heap[w.heap.size]? = some o:=by
 show (w.heap.push o)[w.heap.size]? = _;simp
theorem heap_old (w:World) (o:Obj) {k:Nat} {x:Obj} (h:w.heap[k]? = some x):(w.alloc o).heap[k]? = some x:=by
 have hlt:k < w.heap.size:=(Array.getElem?_eq_some_iff.1 h).1;exact (Below.heap_alloc w o k hlt).trans h
def bi (w:World) (g:Nat) (C:Array Value):Prop:=∃ e fr,w.heap[g]? = some (.cells C e fr)
theorem bi_new {w:World} {g:Nat} {C:Array Value} {e:TypeId} {fr:Nat × Nat} (h:w.heap.size = g):bi (w.alloc (.cells C e fr)) g C:=⟨e,fr,by subst h;exact heap_new w _⟩
theorem bi_old {w:World} {g:Nat} {C:Array Value} {o:Obj} (h:bi w g C):bi (w.alloc o) g C:=by
 obtain ⟨e,fr,h⟩:=h;exact ⟨e,fr,heap_old w o h⟩
theorem bi_drew {w:World} {g:Nat} {C:Array Value} (h:bi w g C):bi w.drew g C:=h
theorem row_block {g:Nat} {C:Array Value} (hh:bi w g C) (hok:ok g)
  (hr:∀ i x,xs[i]? = some x -> d.M w ok x ((C.toList.drop (i * d.sz)).take d.sz)):d.row w ok (some ⟨g,0,none⟩) xs:=fun i x hx=>by
 obtain ⟨e,fr,hh⟩:=hh
 refine ⟨_,_,rfl,hok,hr i x hx,fun j u hu=>?_⟩
 have:=take_drop_get hu
 rw [add_plain,World.cell?,hh]
 simpa using this
theorem row_one {g:Nat} {C:Array Value} {x:α} (hh:bi w g C) (hok:ok g) (hM:d.M w ok x C.toList):d.row w ok (some ⟨g,0,none⟩) [x]:=
 row_block hh hok (fun i y hy=>by
  cases i with
  | zero =>
   simp at hy
   subst hy
   rw [Nat.zero_mul,List.drop_zero,List.take_of_length_le (by rw [d.len hM];exact lR _)]
   exact hM
  | succ i=>simp at hy)
theorem row_u8 {g:Nat} {C:Array Value} {l:List UInt8} (hh:bi w g C) (hok:ok g) (hC:C.toList = l.map fun c=>Value.int .u8 (c.toNat:Int)):byteK.row w ok (some ⟨g,0,none⟩) l:=
 row_block hh hok fun i x hx=>by rw [hC];exact u8_lit _ i x hx
theorem u8_sl {A:Option Addr} {c:Nat} {l:List UInt8} (h1:l.length <= c) (h2:l.length <= 140737488355328/\c <= maxLen) (h3:A = none -> c = 0) (h:byteK.row w ok A l):byteK.sl.M w ok l [.slice A l.length c]:=⟨A,c,rfl,h1,h2,h3,h⟩
theorem replicate_take {z:Value} {n i:Nat} (h:i < n):((List.replicate n z).drop i).take 1 = [z]:=by
 rw [List.drop_replicate,List.take_replicate];rw [show min 1 (n - i) = 1 by omega]
 try rfl
theorem own_make {x:α} {z:Value} {n:Nat} (hn:n <= 140737488355328) (h1:d.sz = 1) (hz:∀ w ok,d.M w ok x [z]) (h:w.ownsRow base e 1 v n (List.replicate (n * 1) z)):d.own e w base ok v (List.replicate n x):=by
 rw [Nat.mul_one] at h;refine ⟨by simpa using hn,List.replicate n z,by rw [h1,List.length_replicate];exact h,fun i y hy=>?_⟩;have hi:i < n:=by have:=(List.getElem?_eq_some_iff.1 hy).1;simpa using this
 rw [List.getElem?_replicate,if_pos hi] at hy;cases hy;rw [h1,Nat.mul_one,replicate_take hi];exact hz _ _
section app
variable {P : Program} {W w0 : World} {ops : Array Oper} {rest : List Oper} {o : Oper} {a : Act} {Q : Exit → Act → World → Prop}
theorem flat_get {f:Nat -> List Value} {s:Nat}:∀ (n:Nat),(∀ i,i < n -> (f i).length = s) -> ((List.range n).flatMap f).length = n * s:=by
 intro n
 induction n with
 | zero=>intro _;simp
 | succ n ih =>
  intro h;rw [List.range_succ,List.flatMap_append,Zl,ih (fun i hi=>h i (by omega)),List.flatMap_cons,List.flatMap_nil,Ze,h n (by omega),Nat.succ_mul]
theorem flat_at {f:Nat -> List Value} {s:Nat}:∀ (n:Nat),(∀ i,i < n -> (f i).length = s) -> ∀ i j,i < n -> j < s -> ((List.range n).flatMap f)[i * s + j]? = (f i)[j]?:=by
 intro n
 induction n with
 | zero=>intro _ i j hi;omega
 | succ n ih =>
  intro h i j hi hj;have hl:=flat_get n (fun i hi=>h i (by omega));rw [List.range_succ,List.flatMap_append,List.flatMap_cons,List.flatMap_nil,Ze];by_cases hin:i < n
  ·
   have:i * s + j < n * s:=by
    have:=Nat.mul_le_mul_right s (show i + 1 <= n from hin);rw [Nat.succ_mul] at this;omega
   rw [List.getElem?_append_left (by omega)];exact ih (fun i hi=>h i (by omega)) i j hin hj
  ·
   obtain rfl:i = n:=by omega
   rw [List.getElem?_append_right (by omega),hl,Nat.add_sub_cancel_left]
theorem row_cells {okE:Nat -> Prop} {ad:Addr} {ys:List α} (h:∀ i x,ys[i]? = some x -> ∃ cs,d.M W okE x cs/\∀ j u,cs[j]? = some u -> W.cell? (ad.add (i * d.sz + j)) = some u) :
  ∃ news:List Value,news.length = ys.length * d.sz/\(∀ j u,news[j]? = some u -> W.cell? (ad.add j) = some u)/\(∀ u ∈ news,u.oneCell' = true) /\
   ∀ i x,ys[i]? = some x -> d.M W okE x ((news.drop (i * d.sz)).take d.sz):=by
 have hc:∀ i:Nat,∃ cs:List Value,i < ys.length -> (∀ x,ys[i]? = some x -> d.M W okE x cs/\∀ j u,cs[j]? = some u -> W.cell? (ad.add (i * d.sz + j)) = some u):=by
  intro i;by_cases hi:i < ys.length
  ·
   obtain ⟨cs,h1⟩:=h i ys[i] (Zg hi);refine ⟨cs,fun _ x hx=>?_⟩;rw [Zg hi] at hx;cases hx;exact h1
  ·
   exact ⟨[],fun h=>absurd h hi⟩
 let f:=fun i=>Classical.choose (hc i)
 have hf:∀ i (hi:i < ys.length),d.M W okE ys[i] (f i)/\∀ j u,(f i)[j]? = some u -> W.cell? (ad.add (i * d.sz + j)) = some u:=
  fun i hi=>Classical.choose_spec (hc i) hi _ (Zg hi)
 have hfl:∀ i,i < ys.length -> (f i).length = d.sz:=fun i hi=>d.len (hf i hi).1
 have hp:=d.pos;have hlen:=flat_get ys.length hfl;have hget:∀ i x,ys[i]? = some x -> (((List.range ys.length).flatMap f).drop (i * d.sz)).take d.sz = f i:=by
  intro i x hx;have hi:i < ys.length:=(List.getElem?_eq_some_iff.1 hx).1;apply List.ext_getElem?;intro j;rw [List.getElem?_take,List.getElem?_drop];by_cases hj:j < d.sz
  ·
   rw [if_pos hj,flat_at ys.length hfl i j hi hj]
  ·
   rw [if_neg hj,List.getElem?_eq_none (by rw [hfl i hi];omega)]
 refine ⟨(List.range ys.length).flatMap f,hlen,fun j u hu=>?_,fun u hu=>?_,fun i x hx=>?_⟩
 ·
  have hj:j < ys.length * d.sz:=by
   have:=(List.getElem?_eq_some_iff.1 hu).1;omega
  have hq:j / d.sz < ys.length:=(Nat.div_lt_iff_lt_mul hp).2 hj;have hr:j % d.sz < d.sz:=Nat.mod_lt _ hp;have he:j / d.sz * d.sz + j % d.sz = j:=by rw [Nat.mul_comm];exact Nat.div_add_mod j d.sz
  rw [<- he,flat_at ys.length hfl _ _ hq hr] at hu;have:=(hf _ hq).2 _ _ hu
  rwa [he] at this
 ·
  obtain ⟨i,hi,hu⟩:=List.mem_flatMap.1 hu;exact d.one (hf i (List.mem_range.1 hi)).1 u hu
 ·
  rw [hget i x hx];have hi:i < ys.length:=(List.getElem?_eq_some_iff.1 hx).1;have:=(hf i hi).1;rw [Zg hi] at hx;cases hx;exact this
theorem own_run (d:Kd α) (base:Nat) (t ty e:TypeId) (z:Value) (bytes:Nat) (ht:P.underlying t = some (.slice e)) (hinfo:(P.info? e).map (fun i=>(i.zero,i.size,i.bytes)) = some (some z,d.sz,bytes))
  (hz:z.cells.size = d.sz) (v:Value) (xs ys:List α) (A:Option Addr) (c:Nat) (ok:Nat -> Prop) (HO:d.own e W base ok v xs)
  (HR:∀ i y,ys[i]? = some y -> ∃ ad cs,A = some ad/\d.M W (fun k=>ok k/\some k ≠ v.ownBlock) y cs/\∀ j u,cs[j]? = some u -> W.cell? (ad.add (i * d.sz + j)) = some u)
  (hA:A = none -> c = 0/\ys = []) (HB:Below base w0 W) (hbase:base <= W.heap.size) (hl:(xs.length + ys.length) * bytes <= 140737488355328) (hb0:0 < bytes) :
  ∃ v1 w1,(Builtin.append_ #[t,t] ty #[v,.slice A ys.length c]).run P W = .ok v1 w1/\d.own e w1 base ok v1 (xs ++ ys)/\Below base w0 w1/\W.grownBy w1 v.ownBlock /\
   (v1.ownBlock = v.ownBlock \/ v1.ownBlock = some W.heap.size):=by
 obtain ⟨i,hi,hz0,hz1,hz2⟩:=info_parts hinfo;obtain ⟨hlx,cells,ho,hr⟩:=HO;cases A with
 | none =>
  obtain ⟨rfl,rfl⟩:=hA rfl;have hrun:=run_append_owned_none (P:=P) (w:=W) base t ty e i d.sz ht hi v _ _ ho;exact ⟨v,W,hrun,by rw [Ze];exact ⟨hlx,cells,ho,hr⟩,HB,World.grownBy.refl _ _,.inl rfl⟩
 | some ad =>
  obtain ⟨news,hnl,hnc,hn1,hnM⟩:=row_cells (W:=W) (d:=d) (ad:=ad) (ys:=ys) (okE:=fun k=>ok k/\some k ≠ v.ownBlock) (fun i y hy=>by
   obtain ⟨ad',cs,h1,h2,h3⟩:=HR i y hy;cases h1;exact ⟨cs,h2,h3⟩)
  have h63:xs.length + ys.length <= maxLen:=by
   have:xs.length + ys.length <= (xs.length + ys.length) * bytes:=Nat.le_mul_of_pos_right _ hb0;unfold maxLen;omega
  obtain ⟨v1,w1,hrun,h2,h3,_,h5⟩:=run_append_own_at (P:=P) W base t ty e i z d.sz bytes ht hi hz0 hz1 hz2 hz d.pos v _ _ ho ad ys.length c news hnl hnc hn1 h63 hl hbase;have hlt:∀ k,v.ownBlock = some k -> base <= k/\k < W.heap.size:=ho.lt;have hl47:(xs ++ ys).length <= 140737488355328:=by
   have:xs.length + ys.length <= (xs.length + ys.length) * bytes:=Nat.le_mul_of_pos_right _ hb0;rw [Zl];omega
  refine ⟨v1,w1,hrun,⟨hl47,cells ++ news,by rw [Zl];exact h2,fun i x hx=>?_⟩,HB.grown h3 hbase (fun k hk=>(hlt k hk).1),h3,h5⟩;have hMold:d.M W (fun k=>ok k/\some k ≠ v.ownBlock) x (((cells ++ news).drop (i * d.sz)).take d.sz):=by
   have hcl:cells.length = xs.length * d.sz:=ho.1;by_cases hix:i < xs.length
   ·
    have h0:xs[i]? = some x:=by rwa [List.getElem?_append_left hix] at hx
    have hle:i * d.sz + d.sz <= cells.length:=by
     rw [hcl,<- Nat.succ_mul];exact Nat.mul_le_mul_right _ hix
    have:((cells ++ news).drop (i * d.sz)).take d.sz = (cells.drop (i * d.sz)).take d.sz:=by
     rw [List.drop_append_of_le_length (by omega),List.take_append_of_le_length (by rw [Zj];omega)]
    rw [this];exact hr i x h0
   ·
    have h0:ys[i - xs.length]? = some x:=by rwa [List.getElem?_append_right (by omega)] at hx
    have hge:xs.length * d.sz <= i * d.sz:=Nat.mul_le_mul_right _ (by omega);have:((cells ++ news).drop (i * d.sz)).take d.sz = (news.drop ((i - xs.length) * d.sz)).take d.sz:=by
     rw [List.drop_append,List.drop_of_length_le (by omega),Zf,hcl,Nat.sub_mul]
    rw [this];exact hnM _ x h0
  have hm1:∀ k,(ok k/\some k ≠ v.ownBlock) -> k < W.heap.size -> w1.heap[k]? = W.heap[k]?:=fun k hk hlt=>h3.block k hlt hk.2
  have hM1:=d.move hm1 (d.mono (ok':=fun k=>(ok k/\some k ≠ v.ownBlock)/\k < W.heap.size) (fun k hk hlt=>⟨hk,hlt⟩) hMold |> d.mono (ok':=fun k=>ok k/\some k ≠ v.ownBlock) (fun k hk _=>hk.1));have hM2:d.M w1 (fun k=>(ok k/\some k ≠ v.ownBlock)/\k < W.heap.size) x (((cells ++ news).drop (i * d.sz)).take d.sz):=
   d.move (fun k hk hlt=>h3.block k hlt hk.1.2) (d.mono (fun k hk hlt=>⟨hk,hlt⟩) hMold)
  refine d.mono (fun k hk _=>⟨hk.1.1,?_⟩) hM2;rcases h5 with h5 | h5
  ·
   rw [h5];exact hk.1.2
  ·
   rw [h5];intro he;have:k = W.heap.size:=by simpa using he
   omega
theorem own_app (d:Kd α) (base:Nat) (hgd:o.guard = none) (s x:Operand) (t e:TypeId) (z:Value) (bytes:Nat)
  (ho:o.op = .call { callee:=.builtin .append,args:=#[s,x],argTypes:=#[t,t] })
  (ht:P.underlying t = some (.slice e)) (hinfo:(P.info? e).map (fun i=>(i.zero,i.size,i.bytes)) = some (some z,d.sz,bytes)) (hz:z.cells.size = d.sz) (hb0:0 < bytes)
  (v:Value) (xs ys:List α) (A:Option Addr) (c:Nat) (ok:Nat -> Prop) (hs:a.eval s = v) (hx:a.eval x = .slice A ys.length c)
  (HO:d.own e W base ok v xs) (HR:d.sl.M W (fun k=>ok k/\some k ≠ v.ownBlock) ys [.slice A ys.length c] \/ d.sl.M W (fun _=>True) ys [.slice A ys.length c]/\∀ w ok ok' x cs,d.M w ok x cs -> d.M w ok' x cs)
  (HB:Below base w0 W) (hbase:base <= W.heap.size) (hl:(xs.length + ys.length) * bytes <= 140737488355328)
  (h:∀ v1 w1,d.own e w1 base ok v1 (xs ++ ys) -> Below base w0 w1 -> W.grownBy w1 v.ownBlock -> (v1.ownBlock = v.ownBlock \/ v1.ownBlock = some W.heap.size) -> wpList P ops Q rest (a.put o.dst v1) w1) :
  wpList P ops Q (o :: rest) a W:=by
 have key:(∀ i y,ys[i]? = some y -> ∃ ad cs,A = some ad/\d.M W (fun k=>ok k/\some k ≠ v.ownBlock) y cs/\∀ j u,cs[j]? = some u -> W.cell? (ad.add (i * d.sz + j)) = some u)/\(A = none -> c = 0/\ys = []):=by
  have nil:∀ {A' c'},[Value.slice A ys.length c] = [.slice A' ys.length c'] -> A = A'/\c = c':=fun he=>by simp at he;exact he
  rcases HR with ⟨A',c',he,h1,_,h3,h4⟩ | ⟨⟨A',c',he,h1,_,h3,h4⟩,hany⟩ <;> obtain ⟨rfl,rfl⟩:=nil he
  ·
   exact ⟨fun i y hy=>by obtain ⟨ad,cs,a1,_,a3,a4⟩:=h4 i y hy;exact ⟨ad,cs,a1,a3,a4⟩,fun hA=>⟨h3 hA,Zn (by have:=h3 hA;omega)⟩⟩
  ·
   exact ⟨fun i y hy=>by obtain ⟨ad,cs,a1,_,a3,a4⟩:=h4 i y hy;exact ⟨ad,cs,a1,hany _ _ _ _ _ a3,a4⟩,fun hA=>⟨h3 hA,Zn (by have:=h3 hA;omega)⟩⟩
 obtain ⟨v1,w1,hr,h1,h2,h3,h4⟩:=own_run (P:=P) (w0:=w0) d base t o.type e z bytes ht hinfo hz v xs ys A c ok HO key.1 key.2 HB hbase hl hb0;refine wpList_plain hgd fun K hK=>?_
 unfold Oper.wp execOp;simp only [ho,resolve,invoke,builtin,Sem.run_bind,Sem.run_pure,Result.andThen_ok,List.map_toArray,List.map_cons,List.map_nil,hs,hx,hr];exact hK _ _ (h v1 w1 h1 h2 h3 h4)
theorem own_app_step (d:Kd α) {K:Act -> World -> Prop} {E:Prop} (base:Nat) (hgd:o.guard = none) (s x:Operand) (t e:TypeId) (z:Value) (bytes:Nat)
  (ho:o.op = .call { callee:=.builtin .append,args:=#[s,x],argTypes:=#[t,t] })
  (ht:P.underlying t = some (.slice e)) (hinfo:(P.info? e).map (fun i=>(i.zero,i.size,i.bytes)) = some (some z,d.sz,bytes)) (hz:z.cells.size = d.sz) (hb0:0 < bytes)
  (v:Value) (xs ys:List α) (A:Option Addr) (c:Nat) (ok:Nat -> Prop) (hs:a.eval s = v) (hx:a.eval x = .slice A ys.length c)
  (HO:d.own e W base ok v xs) (HR:d.sl.M W (fun k=>ok k/\some k ≠ v.ownBlock) ys [.slice A ys.length c] \/ d.sl.M W (fun _=>True) ys [.slice A ys.length c]/\∀ w ok ok' x cs,d.M w ok x cs -> d.M w ok' x cs)
  (HB:Below base w0 W) (hbase:base <= W.heap.size) (hl:(xs.length + ys.length) * bytes <= 140737488355328)
  (h:∀ v1 w1,d.own e w1 base ok v1 (xs ++ ys) -> Below base w0 w1 -> W.grownBy w1 v.ownBlock -> (v1.ownBlock = v.ownBlock \/ v1.ownBlock = some W.heap.size) -> K (a.put o.dst v1) w1) :
  if Region.wanted o (yielded ops a.tmps) = true then Oper.wp P o a W K Q else E:=by
 have hw:Region.wanted o (yielded ops a.tmps) = true:=by simp [Region.wanted,hgd]
 rw [if_pos hw];have key:(∀ i y,ys[i]? = some y -> ∃ ad cs,A = some ad/\d.M W (fun k=>ok k/\some k ≠ v.ownBlock) y cs/\∀ j u,cs[j]? = some u -> W.cell? (ad.add (i * d.sz + j)) = some u)/\(A = none -> c = 0/\ys = []):=by
  have nil:∀ {A' c'},[Value.slice A ys.length c] = [.slice A' ys.length c'] -> A = A'/\c = c':=fun he=>by simp at he;exact he
  rcases HR with ⟨A',c',he,h1,_,h3,h4⟩ | ⟨⟨A',c',he,h1,_,h3,h4⟩,hany⟩ <;> obtain ⟨rfl,rfl⟩:=nil he
  ·
   exact ⟨fun i y hy=>by obtain ⟨ad,cs,a1,_,a3,a4⟩:=h4 i y hy;exact ⟨ad,cs,a1,a3,a4⟩,fun hA=>⟨h3 hA,Zn (by have:=h3 hA;omega)⟩⟩
  ·
   exact ⟨fun i y hy=>by obtain ⟨ad,cs,a1,_,a3,a4⟩:=h4 i y hy;exact ⟨ad,cs,a1,hany _ _ _ _ _ a3,a4⟩,fun hA=>⟨h3 hA,Zn (by have:=h3 hA;omega)⟩⟩
 obtain ⟨v1,w1,hr,h1,h2,h3,h4⟩:=own_run (P:=P) (w0:=w0) d base t o.type e z bytes ht hinfo hz v xs ys A c ok HO key.1 key.2 HB hbase hl hb0;unfold Oper.wp execOp;simp only [ho,resolve,invoke,builtin,Sem.run_bind,Sem.run_pure,Result.andThen_ok,List.map_toArray,List.map_cons,List.map_nil,hs,hx,hr];exact h v1 w1 h1 h2 h3 h4
theorem own_app1 (d:Kd α) (base:Nat) (hgd:o.guard = none) (s x:Operand) (t e:TypeId) (z:Value) (bytes:Nat)
  (ho:o.op = .call { callee:=.builtin .append,args:=#[s,x],argTypes:=#[t,t] })
  (ht:P.underlying t = some (.slice e)) (hinfo:(P.info? e).map (fun i=>(i.zero,i.size,i.bytes)) = some (some z,d.sz,bytes)) (hz:z.cells.size = d.sz) (hb0:0 < bytes)
  (v:Value) (xs:List α) (y:α) (cs:List Value) (ok:Nat -> Prop) (hs:a.eval s = v) (hx:a.eval x = .slice (some ⟨W.heap.size,0,none⟩) 1 1)
  (HO:d.own e W base ok v xs) (HM:d.M W (fun k=>ok k/\some k ≠ v.ownBlock) y cs)
  (HB:Below base w0 W) (hbase:base <= W.heap.size) (hl:(xs.length + 1) * bytes <= 140737488355328)
  (h:∀ v1 w1,d.own e w1 base ok v1 (xs ++ [y]) -> Below base w0 w1 -> W.grownBy w1 v.ownBlock -> (v1.ownBlock = v.ownBlock \/ ∃ b,v1.ownBlock = some b/\W.heap.size <= b) -> wpList P ops Q rest (a.put o.dst v1) w1) :
  wpList P ops Q (o :: rest) a (W.alloc (.cells cs.toArray e)):=by
 have hbel:Below W.heap.size W (W.alloc (.cells cs.toArray e)):=(bR _ _).alloc (lR _) _;have hcl:=d.len HM;have hh:(W.alloc (.cells cs.toArray e)).heap[W.heap.size]? = some (.cells cs.toArray e (0,0)):=by
  show (W.heap.push _)[W.heap.size]? = _;simp
 obtain ⟨v1,w1,hr,h1,h2,h3,h4⟩:=own_run (P:=P) (w0:=w0) (W:=W.alloc (.cells cs.toArray e)) d base t o.type e z bytes ht hinfo hz v xs [y] (some ⟨W.heap.size,0,none⟩) 1 ok (own_alloc HO _)
  (fun i q hq=>by
   have:i = 0/\q = y:=by
    cases i with
    | zero=>simp at hq;exact ⟨rfl,hq.symm⟩
    | succ i=>simp at hq
   obtain ⟨rfl,rfl⟩:=this;refine ⟨_,cs,rfl,M_below HM hbel,fun j u hu=>?_⟩;rw [Nat.zero_mul,Nat.zero_add,add_plain];rw [World.cell?,hh];simpa using hu)
  (fun h=>by cases h) (HB.alloc hbase _) (by have:=hbel.size;omega) hl hb0
 refine wpList_plain hgd fun K hK=>?_
 unfold Oper.wp execOp;have hr':(Builtin.append_ #[t,t] o.type #[v,.slice (some ⟨W.heap.size,0,none⟩) 1 1]).run P (W.alloc (.cells cs.toArray e)) = .ok v1 w1:=hr;simp only [ho,resolve,invoke,builtin,Sem.run_bind,Sem.run_pure,Result.andThen_ok,List.map_toArray,List.map_cons,List.map_nil,hs,hx,hr'];refine hK _ _ (h v1 w1 h1 h2 ⟨h3.os.trans hbel.os,h3.tape.trans hbel.tape,h3.output.trans hbel.output,Zh hbel.size h3.size,fun k hk hne=>(h3.block k (by have:=hbel.size;omega) hne).trans (hbel.block k hk)⟩ ?_);rcases h4 with h4 | h4
 ·
  exact .inl h4
 ·
  exact .inr ⟨_,h4,hbel.size⟩
end app
section more
variable {P : Program} {W : World} {ops : Array Oper} {rest : List Oper} {o : Oper} {a : Act} {Q : Exit → Act → World → Prop}
theorem own_grow (d:Kd α) (hgd:o.guard = none) (s x:Operand) (t e:TypeId) (z:Value) (bytes:Nat)
  (ho:o.op = .call { callee:=.builtin .append,args:=#[s,x],argTypes:=#[t,t] })
  (ht:P.underlying t = some (.slice e)) (hinfo:(P.info? e).map (fun i=>(i.zero,i.size,i.bytes)) = some (some z,d.sz,bytes)) (hz:z.cells.size = d.sz) (hb0:0 < bytes)
  (xs ys:List α) (Ax A:Option Addr) (cx c:Nat) (ok:Nat -> Prop) (hs:a.eval s = .slice Ax xs.length cx) (hx:a.eval x = .slice A ys.length c)
  (HX:d.sl.M W ok xs [.slice Ax xs.length cx]) (HY:d.sl.M W ok ys [.slice A ys.length c]) (hfull:cx < xs.length + ys.length) (hy:0 < ys.length)
  (hl:(xs.length + ys.length) * bytes <= 140737488355328)
  (h:∀ v1 w1,d.own e w1 W.heap.size ok v1 (xs ++ ys) -> Below W.heap.size W w1 -> wpList P ops Q rest (a.put o.dst v1) w1) :
  wpList P ops Q (o :: rest) a W:=by
 obtain ⟨i,hi,hz0,hz1,hz2⟩:=info_parts hinfo;have nil:∀ {n:Nat} {A A':Option Addr} {c c':Nat},[Value.slice A n c] = [.slice A' n c'] -> A = A'/\c = c':=fun he=>by simp at he;exact he
 obtain ⟨A1,c1,he1,g1,_,g3,g4⟩:=HX;obtain ⟨rfl,rfl⟩:=nil he1;obtain ⟨A2,c2,he2,k1,_,k3,k4⟩:=HY;obtain ⟨rfl,rfl⟩:=nil he2;obtain ⟨ay,rfl⟩:∃ ay,A = some ay:=by
  obtain ⟨ad,cs,h1,_⟩:=row_at k4 hy;exact ⟨ad,h1⟩
 have rows:∀ {zs:List α} {B:Option Addr} (bd:Addr),d.row W ok B zs -> (zs = [] \/ B = some bd) -> ∃ news:List Value,news.length = zs.length * d.sz/\(∀ j u,news[j]? = some u -> W.cell? (bd.add j) = some u)/\(∀ u ∈ news,u.oneCell' = true) /\
   ∀ i x,zs[i]? = some x -> d.M W ok x ((news.drop (i * d.sz)).take d.sz):=by
  intro zs B bd hr hB;refine row_cells (W:=W) (d:=d) (ad:=bd) (ys:=zs) (okE:=ok) (fun i y hy=>?_);obtain ⟨ad',cs,h1,_,h2,h3⟩:=hr i y hy;rcases hB with rfl | rfl
  ·
   simp at hy
  ·
   cases h1;exact ⟨cs,h2,h3⟩
 obtain ⟨news,hnl,hnc,hn1,hnM⟩:=rows ay k4 (.inr rfl);obtain ⟨bx,hbx⟩:∃ bx:Addr,xs = [] \/ Ax = some bx:=by
  cases Ax with
  | some b=>exact ⟨b,.inr rfl⟩
  | none=>exact ⟨⟨0,0,none⟩,.inl (Zn (by have:=g3 rfl;omega))⟩
 obtain ⟨olds,hol,hoc,ho1,hoM⟩:=rows bx g4 hbx;have h63:xs.length + ys.length <= maxLen:=by
  have:xs.length + ys.length <= (xs.length + ys.length) * bytes:=Nat.le_mul_of_pos_right _ hb0;unfold maxLen;omega
 have h47:(xs ++ ys).length <= 140737488355328:=by
  have:xs.length + ys.length <= (xs.length + ys.length) * bytes:=Nat.le_mul_of_pos_right _ hb0;rw [Zl];omega
 refine wpList_append_grows W hgd s x t ho e i z d.sz bytes ht hi hz0 hz1 hz2 hz d.pos Ax xs.length cx olds hs (fun h0=>⟨by have:=g3 h0;omega,g3 h0⟩) hol (fun b hb j u hu=>?_) ay ys.length c news hx hnl hnc hn1 hfull h63 hl (fun v1 w1 hown hg=>?_)
 ·
  rcases hbx with rfl | hbx
  ·
   rw [List.length_nil,Nat.zero_mul] at hol;rw [Zn hol] at hu;simp at hu
  ·
   rw [hb] at hbx;cases hbx;exact hoc j u hu
 ·
  have hbel:Below W.heap.size W w1:=(bR _ _).grown hg (lR _) (fun k hk=>by cases hk);refine h v1 w1 ⟨h47,olds ++ news,by rw [Zl];exact hown,fun i x hx=>?_⟩ hbel;have hM:d.M W ok x (((olds ++ news).drop (i * d.sz)).take d.sz):=by
   by_cases hix:i < xs.length
   ·
    have h0:xs[i]? = some x:=by rwa [List.getElem?_append_left hix] at hx
    have hle:i * d.sz + d.sz <= olds.length:=by
     rw [hol,<- Nat.succ_mul];exact Nat.mul_le_mul_right _ hix
    rw [List.drop_append_of_le_length (by omega),List.take_append_of_le_length (by rw [Zj];omega)];exact hoM i x h0
   ·
    have h0:ys[i - xs.length]? = some x:=by rwa [List.getElem?_append_right (by omega)] at hx
    have hge:xs.length * d.sz <= i * d.sz:=Nat.mul_le_mul_right _ (by omega);have:((olds ++ news).drop (i * d.sz)).take d.sz = (news.drop ((i - xs.length) * d.sz)).take d.sz:=by
     rw [List.drop_append,List.drop_of_length_le (by omega),Zf,hol,Nat.sub_mul]
    rw [this];exact hnM _ x h0
  have hM2:d.M w1 (fun k=>ok k/\k < W.heap.size) x (((olds ++ news).drop (i * d.sz)).take d.sz):=
   d.move (fun k hk hlt=>hbel.block k hk.2) (d.mono (fun k hk hlt=>⟨hk,hlt⟩) hM)
  refine d.mono (fun k hk _=>⟨hk.1,fun he=>?_⟩) hM2;have:=(hown.lt k he.symm).1;omega
theorem cut_run (d:Kd α) (t e:TypeId) (ht:P.underlying t = some (.slice e)) (hsz:P.cellsOf e = d.sz) (z:Value) (bytes:Nat) (hinfo:(P.info? e).map (fun i=>(i.zero,i.size,i.bytes)) = some (some z,d.sz,bytes))
  (A:Option Addr) (n c:Nat) (lo hi:Nat) (h1:lo <= hi) (h2:hi <= n) (hc:n <= c) (h47:n <= 140737488355328/\c <= maxLen) (hA:A = none -> c = 0) :
  ∃ A':Option Addr,(∀ (kl kh:IntKind) (w:World),(Instr.slice t (.slice A n c) (some (.int kl (lo:Int))) (some (.int kh (hi:Int))) none).run P w = .ok (.slice A' (hi - lo) (c - lo)) w) /\
   (∀ (kl:IntKind) (w:World),hi = n -> (Instr.slice t (.slice A n c) (some (.int kl (lo:Int))) none none).run P w = .ok (.slice A' (hi - lo) (c - lo)) w) /\
   (∀ (kh:IntKind) (w:World),lo = 0 -> (Instr.slice t (.slice A n c) none (some (.int kh (hi:Int))) none).run P w = .ok (.slice A' (hi - lo) (c - lo)) w) /\
   ∀ (w:World) (ok:Nat -> Prop) (xs:List α),xs.length = n -> d.row w ok A xs -> d.sl.M w ok ((xs.take hi).drop lo) [.slice A' (hi - lo) (c - lo)]:=by
 obtain ⟨i,hi',_,hz1,_⟩:=info_parts hinfo;have hel:P.elem t = e:=by simp [Program.elem,ht]
 have hu:P.underlying t = some (.slice (P.elem t)):=by rw [hel];exact ht
 refine ⟨if c = lo then A else A.map (·.add (lo * d.sz)),fun kl kh w=>?_,fun kl w hn=>?_,fun kh w h0=>?_,fun w ok xs hx hr=>?_⟩
 ·
  rw [run_slice_lh w t A n c hu kl kh lo hi (by omega) (by omega) (by omega),hel];simp [sizeOf,typeInfo,hi',hz1,sliced,Result.andThen]
 ·
  subst hn;rw [run_slice_l w t A hi c hu kl lo (by omega) (by omega),hel];simp [sizeOf,typeInfo,hi',hz1,sliced,Result.andThen]
 ·
  subst h0;rw [run_slice_h w t A n c hu kh hi (by omega) (by omega),hel];simp [sizeOf,typeInfo,hi',hz1,sliced,Result.andThen]
 ·
  have hlen:((xs.take hi).drop lo).length = hi - lo:=by simp;omega
  refine ⟨_,c - lo,by rw [hlen],by rw [hlen];omega,⟨by rw [hlen];omega,by omega⟩,fun h=>?_,?_⟩
  ·
   split at h
   ·
    omega
   ·
    cases A with
    | none=>have:=hA rfl;omega
    | some b=>cases h
  ·
   split
   ·
    have:(xs.take hi).drop lo = []:=Zn (by omega);rw [this];exact row_nil _ _ _ _
   ·
    exact row_drop (row_take hr hi) lo
end more
end Kd
def mkS (l:List UInt8):ByteArray:=⟨l.toArray⟩
theorem mkS_size (l:List UInt8):(mkS l).size = l.length:=by simp [mkS,ByteArray.size]
theorem mkS_data (l:List UInt8):(mkS l).data.toList = l:=rfl
theorem byte_nums (l:List UInt8):(l.map fun c=>(c.toNat:Int)).map (fun n=>UInt8.ofNat n.toNat) = l:=by
 rw [List.map_map]
 conv=>rhs;rw [<- List.map_id l]
 apply List.map_congr_left;intro c _;simp
theorem conv_string {P:Program} {w:World} {src dst e:TypeId} {A:Option Addr} {c:Nat} {l:List UInt8} {ok:Nat -> Prop} (hs:P.underlying src = some (.slice e)) (he:P.underlying e = some (.int .u8)) (hd:P.underlying dst = some .string)
  (h:byteK.row w ok A l):(convert src dst (.slice A l.length c)).run P w = .ok (.string (mkS l)) w:=by
 rcases A with _ | ad
 ·
  obtain rfl:l = []:=by
   cases l with
   | nil=>rfl
   | cons x l =>
    obtain ⟨ad,cs,h1,_⟩:=Kd.row_at h (i:=0) (by simp);cases h1
  exact run_convert_bytes_nil w src e hs he 0 c dst hd
 ·
  have hl:(loadCells ad l.length).run P w = .ok ((l.map fun c=>(c.toNat:Int)).map (Value.int .u8)).toArray w:=by
   have:=run_loadCells_list (P:=P) w ad ((l.map fun c=>(c.toNat:Int)).map (Value.int .u8)) (fun j v hj=>by
    have hjl:j < l.length:=by
     have:=(List.getElem?_eq_some_iff.1 hj).1;simpa using this
    obtain ⟨ad',cs,h1,h2,h3⟩:=Kd.row_at h hjl;cases h1;obtain rfl:cs = [.int .u8 (l[j].toNat:Int)]:=h2;have h4:=h3 0 _ rfl;rw [List.getElem?_map,List.getElem?_map,Zg hjl] at hj;simp at hj;subst hj;simpa [byteK,flat] using h4)
   simpa using this
  rw [run_convert_bytes_string w src dst e _ _ c hs he hd,run_bytesToString w ad _ c _ hl,foldl_push_bytes];rw [byte_nums];simp [mkS,ByteArray.empty,ByteArray.emptyWithCapacity];rfl
def pairK {α β:Type} (a:Kd α) (b:Kd β):Kd (α × β) where
 sz:=a.sz + b.sz
 pos:=Nat.lt_of_lt_of_le a.pos (Nat.le_add_right _ _)
 M:=fun w ok x cs=>∃ c1 c2,cs = c1 ++ c2/\a.M w ok x.1 c1/\b.M w ok x.2 c2
 len:=fun ⟨c1,c2,h,h1,h2⟩=>by rw [h,Zl,a.len h1,b.len h2]
 one:=fun ⟨c1,c2,h,h1,h2⟩ u hu=>by
  rw [h] at hu
  rcases Zk.1 hu with hu | hu
  ·
   exact a.one h1 u hu
  ·
   exact b.one h2 u hu
 mono:=fun hok ⟨c1,c2,h,h1,h2⟩=>⟨c1,c2,h,a.mono hok h1,b.mono hok h2⟩
 move:=fun hm ⟨c1,c2,h,h1,h2⟩=>⟨c1,c2,h,a.move hm h1,b.move hm h2⟩
end B
namespace HeldZ
open Go
section
variable {P : Program} {ops : Array Oper} {md : Region.Mode} {Q : Exit → Act → World → Prop} {S : World → Prop} {z : Nat}
def wpAnyZ (P:Program) (md:Region.Mode) (ops:Array Oper) (Q:Exit -> Act -> World -> Prop) (S:World -> Prop) (z:Nat):Nat -> Array Bool -> Act -> World -> Prop
 | 0,listed,a,w=>Region.ready md ops listed = []/\Q .normal a w
 | fuel + 1,listed,a,w =>
  (Region.ready md ops listed = [] -> Q .normal a w) /\
  ∀ i ∈ Region.ready md ops listed,wpOp P ops Q i (fun a' w'=>(i ≠ z -> S w')/\wpAnyZ P md ops Q S z fuel (listed.setIfInBounds i true) a' w') a w
theorem any_of_z:∀ (fuel:Nat) (listed:Array Bool) (a:Act) (w:World),wpAnyZ P md ops Q S z fuel listed a w -> wpAny P md ops Q fuel listed a w
 | 0,_,_,_,h=>h
 | fuel + 1,_,_,_,h=>⟨h.1,fun i hi=>wpOp_mono (fun a' w' h'=>any_of_z fuel _ a' w' h'.2) (h.2 i hi)⟩
theorem first {i:Nat} {oi:Oper} {v:Value} (hi:ops[i]? = some oi) (hsel:∀ (j:Nat) (o:Oper) cs b,ops[j]? = some o -> o.op ≠ .select cs b)
  (hQ:∀ c a w,Q (.panic c) (a.put oi.dst v) w -> Q (.panic c) a w) (hs:Region.sinkB md ops z = true) (hc:Region.chainB md ops z = true) (hn:z < ops.size) (hiz:i < z) :
  ∀ (fuel:Nat) (listed:Array Bool) (a:Act) (w:World),HeadInv md ops z listed ->
   (∀ j oj,ops[j]? = some oj -> j ≠ i -> listed.getD j true = false -> (∀ e ∈ oj.after,Region.binds md e = true -> e.on ≠ i) -> oi.apart ops oj = true) ->
   i ∈ Region.ready md ops listed -> YieldsIf P ops S oi v a -> S w ->
   wpAnyZ P md ops Q S z fuel (listed.setIfInBounds i true) (a.put oi.dst v) w -> wpAnyZ P md ops Q S z (fuel + 1) listed a w:=by
 intro fuel
 induction fuel with
 | zero =>
  intro listed a w _ _ hr hy hS H;refine ⟨fun h=>(by rw [h] at hr;cases hr),fun j hj=>?_⟩;by_cases hji:j = i
  ·
   subst hji;exact hy.wpOp hi hS ⟨fun _=>hS,H⟩
  ·
   have:=ready_mono hj hji;rw [H.1] at this;cases this
 | succ fuel ih =>
  intro listed a w inv hfree hr hy hS H;refine ⟨fun h=>(by rw [h] at hr;cases hr),fun j hj=>?_⟩;by_cases hji:j = i
  ·
   subst hji;exact hy.wpOp hi hS ⟨fun _=>hS,H⟩
  ·
   have hun:=(mem_ready.1 hr).1;have hjz:j < z:=Nat.lt_of_not_le fun h=>tail_waits hs hc hn inv _ i rfl hiz hun j h hj
   have h1:wpOp P ops Q j (fun a' w'=>S w'/\wpAnyZ P md ops Q S z fuel ((listed.setIfInBounds i true).setIfInBounds j true) a' w') (a.put oi.dst v) w:=
    wpOp_mono (fun a' w' h=>⟨h.1 (by omega),h.2⟩) (H.2 j (ready_mono hj hji))
   obtain ⟨hjun,oj,hoj,hall⟩:=mem_ready.1 hj;have hnot:∀ e ∈ oj.after,Region.binds md e = true -> e.on ≠ i:=fun e he hb heq=>by
    have h1:=hall e he hb;have h0:=(mem_ready.1 hr).1;rw [heq] at h1;rcases Nat.lt_or_ge i listed.size with h' | h'
    ·
     simp [h'] at h0 h1;rw [h0] at h1;cases h1
    ·
     simp [Array.getElem?_eq_none h'] at h1
   have h2:=wpOp_putIf hoj (hfree j oj hoj hji hjun hnot) (fun cs b=>hsel i oi cs b hi) (fun cs b=>hsel j oj cs b hoj) hQ hy h1;have hfree':∀ k ok,ops[k]? = some ok -> k ≠ i -> (listed.setIfInBounds j true).getD k true = false ->
     (∀ e ∈ ok.after,Region.binds md e = true -> e.on ≠ i) -> oi.apart ops ok = true:=fun k ok hk hki hun hno=>by
    refine hfree k ok hk hki ?_ hno;by_cases hjk:j = k
    ·
     subst hjk;exact hjun
    ·
     rw [getD_set_ne true hjk] at hun;exact hun
   refine wpOp_mono (fun a' w' h3=>⟨fun _=>h3.2.1,ih (listed.setIfInBounds j true) a' w' (inv.set hj hjz) hfree' (ready_mono hr (Ne.symm hji)) h3.1 h3.2.1 ?_⟩) h2;rw [Array.setIfInBounds_comm _ _ hji];exact h3.2.2
theorem take (i:Nat) {oi:Oper} {v:Value} {fuel:Nat} {listed:Array Bool} {a:Act} {w:World} (inv:HeadInv md ops z listed) (hi:ops[i]? = some oi) (hsk:Region.sinkB md ops z = true) (hc:Region.chainB md ops z = true) (hn:z < ops.size) (hiz:i < z)
  (hs:Region.noSelect ops = true) (hf:Region.free md ops listed i = true) (hr:(Region.ready md ops listed).contains i = true)
  (hQ:∀ c a w,Q (.panic c) (a.put oi.dst v) w -> Q (.panic c) a w) (hS:S w) (hy:YieldsIf P ops S oi v a)
  (h:HeadInv md ops z (listed.setIfInBounds i true) -> wpAnyZ P md ops Q S z fuel (listed.setIfInBounds i true) (a.put oi.dst v) w):wpAnyZ P md ops Q S z (fuel + 1) listed a w:=
 have hr':i ∈ Region.ready md ops listed:=by simpa using hr
 first hi (Region.noSelect_spec hs) hQ hsk hc hn hiz fuel listed a w inv (Region.free_spec hi hf) hr' hy hS (h (inv.set hr' hiz))
theorem one (i:Nat) {o:Oper} {fuel:Nat} {listed:Array Bool} {a:Act} {w:World} (inv:HeadInv md ops z listed) (hr:Region.ready md ops listed = [i]) (hi:ops[i]? = some o) (hg:o.guard = none)
  (h:(i < z -> HeadInv md ops z (listed.setIfInBounds i true)) -> ∀ K:Act -> World -> Prop,(∀ a' w',(i ≠ z -> S w') -> wpAnyZ P md ops Q S z fuel (listed.setIfInBounds i true) a' w' -> K a' w') -> o.wp P a w K Q):wpAnyZ P md ops Q S z (fuel + 1) listed a w:=by
 have hmem:i ∈ Region.ready md ops listed:=by rw [hr];simp
 refine ⟨fun h0=>(by rw [hr] at h0;cases h0),fun j hj=>?_⟩;rw [hr] at hj;simp at hj;subst hj;unfold wpOp;rw [hi];have hw:Region.wanted o (yielded ops a.tmps) = true:=by simp [Region.wanted,hg]
 simp only [hw,if_true];exact .inl (h (fun hlt=>inv.set hmem hlt) _ fun a' w' h1 h2=>⟨h1,h2⟩)
theorem oneL (i:Nat) {o:Oper} {fuel:Nat} {listed:Array Bool} {a:Act} {w:World} (inv:HeadInv md ops z listed) (hr:Region.ready md ops listed = [i]) (hi:ops[i]? = some o) (hg:o.guard = none)
  (h:(i < z -> HeadInv md ops z (listed.setIfInBounds i true)) -> ∀ K:Act -> World -> Prop,(∀ a' w',(i ≠ z -> S w') -> wpAnyZ P md ops Q S z fuel (listed.setIfInBounds i true) a' w' -> K a' w') -> if Region.wanted o (yielded ops a.tmps) = true then o.wp P a w K Q else True):wpAnyZ P md ops Q S z (fuel + 1) listed a w:=
 one i inv hr hi hg fun h1 K h2=>by
  have h3:=h h1 K h2;have hw:Region.wanted o (yielded ops a.tmps) = true:=by simp [Region.wanted,hg]
  rwa [if_pos hw] at h3
theorem done {listed:Array Bool} {a:Act} {w:World} (hr:Region.ready md ops listed = []) (h:Q .normal a w):∀ fuel,wpAnyZ P md ops Q S z fuel listed a w
 | 0=>⟨hr,h⟩
 | _ + 1=>⟨fun _=>h,by rw [hr];simp⟩
theorem region {id:Nat} {a:Act} {w:World} (S:World -> Prop) (z n:Nat) (L:Array Bool) (hm:P.follows .mixedOrders = true) (hn:ops.size = n) (hL:Array.replicate n false = L)
  (h:HeadInv .any ops z L -> wpAnyZ P .any ops Q S z n L a w.drew):(Code.region id ops true).wp P Q a w:=by
 subst hL hn;refine wp_region_any hm (any_of_z _ _ _ _ (h ?_));exact ⟨by simp,fun j oj _ hl=>(by rw [getD_replicate_false] at hl;cases hl),fun t _ ht=>getD_in (by simpa using ht) (getD_replicate_false _ _)⟩
end
end HeldZ
namespace HeldZ
open Go
section
variable {P : Program} {ops : Array Oper} {md : Region.Mode} {Q : Exit → Act → World → Prop} {S : World → Prop} {z : Nat}
theorem oneW (i:Nat) {o:Oper} {fuel:Nat} {listed:Array Bool} {a:Act} {w:World} (inv:HeadInv md ops z listed) (hr:Region.ready md ops listed = [i]) (hi:ops[i]? = some o) (hw:Region.wanted o (yielded ops a.tmps) = true)
  (h:(i < z -> HeadInv md ops z (listed.setIfInBounds i true)) -> ∀ K:Act -> World -> Prop,(∀ a' w',(i ≠ z -> S w') -> wpAnyZ P md ops Q S z fuel (listed.setIfInBounds i true) a' w' -> K a' w') -> o.wp P a w K Q):wpAnyZ P md ops Q S z (fuel + 1) listed a w:=by
 have hmem:i ∈ Region.ready md ops listed:=by rw [hr];simp
 refine ⟨fun h0=>(by rw [hr] at h0;cases h0),fun j hj=>?_⟩;rw [hr] at hj;simp at hj;subst hj;unfold wpOp;rw [hi];simp only [hw,if_true];exact .inl (h (fun hlt=>inv.set hmem hlt) _ fun a' w' h1 h2=>⟨h1,h2⟩)
theorem twoW (i j:Nat) {o o':Oper} {fuel:Nat} {listed:Array Bool} {a:Act} {w:World} (inv:HeadInv md ops z listed) (hr:Region.ready md ops listed = [i,j]) (hi:ops[i]? = some o) (hw:Region.wanted o (yielded ops a.tmps) = true) (hi':ops[j]? = some o') (hw':Region.wanted o' (yielded ops a.tmps) = true)
  (h:(i < z -> HeadInv md ops z (listed.setIfInBounds i true)) -> ∀ K:Act -> World -> Prop,(∀ a' w',(i ≠ z -> S w') -> wpAnyZ P md ops Q S z fuel (listed.setIfInBounds i true) a' w' -> K a' w') -> o.wp P a w K Q)
  (h':(j < z -> HeadInv md ops z (listed.setIfInBounds j true)) -> ∀ K:Act -> World -> Prop,(∀ a' w',(j ≠ z -> S w') -> wpAnyZ P md ops Q S z fuel (listed.setIfInBounds j true) a' w' -> K a' w') -> o'.wp P a w K Q):wpAnyZ P md ops Q S z (fuel + 1) listed a w:=by
 have hmem:i ∈ Region.ready md ops listed:=by rw [hr];simp
 have hmem':j ∈ Region.ready md ops listed:=by rw [hr];simp
 refine ⟨fun h0=>(by rw [hr] at h0;cases h0),fun k hk=>?_⟩;rw [hr] at hk;simp only [List.mem_cons,List.not_mem_nil,or_false] at hk;rcases hk with rfl | rfl
 ·
  unfold wpOp;rw [hi];simp only [hw,if_true];exact .inl (h (fun hlt=>inv.set hmem hlt) _ fun a' w' h1 h2=>⟨h1,h2⟩)
 ·
  unfold wpOp;rw [hi'];simp only [hw',if_true];exact .inl (h' (fun hlt=>inv.set hmem' hlt) _ fun a' w' h1 h2=>⟨h1,h2⟩)
end
end HeldZ
namespace HeldZ
open Go
section
variable {P : Program} {ops : Array Oper} {md : Region.Mode} {Q : Exit → Act → World → Prop} {S : World → Prop} {z : Nat}
end
end HeldZ
namespace B
open Go.RowKit Go.ChangeShapes Go.WideShapes Go.Deep
def Opens {α:Type} (P:Program) (d:Kd α) (t:TypeId):Prop:=
 ∀ {H:Type} (enc:TypeId × Value -> H) (w:World) (fuel:Nat) (cs:List Value) (x:DataW H × List MemPlace),DataW.trod enc P w 0 (fun _=>true) true fuel t cs = some x -> (∀ n ∈ DataW.weights P t x.1,n <= reachBytes) -> ∃ a,d.M w (fun _=>True) a cs
theorem weights_of {H:Type} {P:Program} {ts:List TypeId} {ds:List (DataW H)} (h:(DataW.weightsEach P ts ds).all (· <= reachBytes) = true) {j:Nat} {t:TypeId} {d:DataW H} (ht:ts[j]? = some t) (hd:ds[j]? = some d) :
  ∀ n ∈ DataW.weights P t d,n <= reachBytes:=fun n hn=>by
 have:=List.all_eq_true.1 h n (DataW.weights_mem_each ht hd n hn)
 simpa using this
theorem weights_all {H:Type} {P:Program} {e:TypeId}:∀ {ds:List (DataW H)} {d:DataW H},d ∈ ds -> ∀ n ∈ DataW.weights P e d,n ∈ DataW.weightsAll P e ds
 | d0 :: ds,d,hd,n,hn=>by
  simp only [DataW.weightsAll,Zk]
  rcases List.mem_cons.1 hd with rfl | hd
  ·
   exact .inl hn
  ·
   exact .inr (weights_all hd n hn)
 | [],_,hd,_,_=>by cases hd
namespace Opens
variable {P : Program} {t e : TypeId}
theorem u8_of {n:Int} (h:(Lit.int .u8 n).wf = true):∃ b:UInt8,n = (b.toNat:Int):=by
 simp [Lit.wf,IntKind.min,IntKind.max,IntKind.bits,IntKind.signed] at h;refine ⟨UInt8.ofNat n.toNat,?_⟩;rw [UInt8.toNat_ofNat'];omega
theorem i64_of {n:Int} (h:(Lit.int .i64 n).wf = true):-9223372036854775808 <= n/\n <= 9223372036854775807:=by
 simp [Lit.wf,IntKind.min,IntKind.max,IntKind.bits,IntKind.signed] at h;omega
theorem byte (ht:P.underlying t = some (.int .u8)):Opens P byteK t:=fun enc w fuel cs x h _=>by
 obtain ⟨n,rfl,_,hw⟩:=DataW.trod_int ht h
 obtain ⟨b,rfl⟩:=u8_of hw
 exact ⟨b,rfl⟩
theorem slice {α:Type} {d:Kd α} (ht:P.underlying t = some (.slice e)) (hc:P.cellsOf e = d.sz) (hby:0 < P.bytesOf e) (he:Opens P d e):Opens P d.sl t:=fun enc w fuel cs x h hw=>by
 rcases open_slice ht h with ⟨rfl,_⟩ | ⟨a,len,cap,m,n,D,Pl,rfl,_,hl,hm,hmm,hxx,hx⟩
 ·
  exact ⟨[],none,0,rfl,lR _,⟨by simp,Nat.zero_le _⟩,fun _=>rfl,Kd.row_nil _ _ _ _⟩
 ·
  rw [if_pos rfl] at hmm;subst hxx;simp only [DataW.weights,ht] at hw;have hlen47:len <= 140737488355328:=by
   have h1:=hw _ List.mem_cons_self;simp only [List.length_map,List.length_range,reachBytes] at h1;have h2:len + (m - len) <= (len + (m - len)) * P.bytesOf e:=Nat.le_mul_of_pos_right _ hby
   omega
  have hwe:∀ i,i < len -> ∀ n ∈ DataW.weights P e (D i),n <= reachBytes:=fun i hi n hn =>
   hw n (List.mem_cons_of_mem _ (List.mem_append_left _ (weights_all (List.mem_map.2 ⟨i,List.mem_range.2 hi,rfl⟩) n hn)))
  have key:∀ n':Nat,n' <= len -> ∃ xs:List α,xs.length = n'/\∀ i x,xs[i]? = some x -> ∃ cs,d.M w (fun _=>True) x cs/\∀ j u,cs[j]? = some u -> w.cell? (a.add (i * d.sz + j)) = some u:=by
   intro n'
   induction n' with
   | zero=>intro _;exact ⟨[],rfl,fun i x h=>by simp at h⟩
   | succ n' ih =>
    intro hn;obtain ⟨xs,hlx,hxs⟩:=ih (by omega);obtain ⟨cs',h1,h2⟩:=hx n' (by omega);obtain ⟨y,hy⟩:=he enc w n cs' _ h2 (hwe n' (by omega));refine ⟨xs ++ [y],by simp [hlx],fun i x hi=>?_⟩;by_cases hlt:i < n'
    ·
     rw [List.getElem?_append_left (by omega)] at hi;exact hxs i x hi
    ·
     rw [List.getElem?_append_right (by omega)] at hi;have:i - xs.length = 0:=by
      have:=(List.getElem?_eq_some_iff.1 hi).1;simp at this;omega
     rw [this] at hi;simp at hi;subst hi;obtain rfl:i = n':=by omega
     refine ⟨cs',hy,fun j u hu=>?_⟩;obtain ⟨_,hlen,hat⟩:=World.cells?_some h1;have hj:j < P.cellsOf e:=by
      have:=(List.getElem?_eq_some_iff.1 hu).1;omega
     have:=hat j hj;rw [hc,B.add_add] at this;rw [this];exact hu
  obtain ⟨xs,hlx,hxs⟩:=key len (lR _);subst hlx;exact ⟨xs,some a,cap,rfl,hl,⟨hlen47,hm⟩,fun h=>(by cases h),fun i x hi=>by
   obtain ⟨cs,h1,h2⟩:=hxs i x hi;exact ⟨a,cs,rfl,trivial,h1,h2⟩⟩
theorem int (ht:P.underlying t = some (.int .i64)):Opens P intK t:=fun enc w fuel cs x h _=>by
 obtain ⟨n,rfl,_,hw⟩:=DataW.trod_int ht h
 exact ⟨n,rfl,i64_of hw⟩
theorem two {α β:Type} {a:Kd α} {b:Kd β} {f0 f1:Field} (ht:P.underlying t = some (.struct #[f0,f1])) (h0:Opens P a f0.type) (h1:Opens P b f1.type)
  (o0:f0.offset = 0) (c0:P.cellsOf f0.type = a.sz) (o1:f1.offset = a.sz) (c1:P.cellsOf f1.type = b.sz) (ct:P.cellsOf t = a.sz + b.sz):Opens P (pairK a b) t:=fun enc w fuel cs x h hw=>by
 obtain ⟨y0,y1,n,rfl,hl,k0,k1⟩:=trod_struct2 ht h
 simp only [DataW.weights,ht] at hw
 have e:([f0,f1]:List Field).map (·.type) = [f0.type,f1.type]:=rfl
 rw [show (#[f0,f1]:Array Field).toList.map (·.type) = [f0.type,f1.type] from rfl] at hw
 simp only [DataW.weightsEach,Ze] at hw
 rw [o0,c0,List.drop_zero] at k0
 rw [o1,c1] at k1
 obtain ⟨p,hp⟩:=h0 enc w n _ _ k0 (fun m hm=>hw m (List.mem_append_left _ hm))
 obtain ⟨q,hq⟩:=h1 enc w n _ _ k1 (fun m hm=>hw m (List.mem_append_right _ hm))
 refine ⟨(p,q),_,_,?_,hp,hq⟩
 have e2:(cs.drop a.sz).take b.sz = cs.drop a.sz:=List.take_of_length_le (by rw [Zj];omega)
 rw [e2]
 exact (List.take_append_drop _ _).symm
end Opens
end B
namespace Rd
open Go.RowKit B
theorem mkS_get (l:List UInt8) (k:Nat) (h:k < (mkS l).size) (h':k < l.length):(mkS l)[k] = l[k]:=rfl
theorem mkS_toList (l:List UInt8):(mkS l).toList = l:=ByteArray.toList_mk l
theorem mkS_extract (l:List UInt8) (a b:Nat):(mkS l).extract a b = mkS ((l.drop a).take (b - a)):=by
 apply ByteArray.ext;apply Array.toList_inj.1;exact Lib.extract_data (mkS l) a b
theorem mkS_append (a b:List UInt8):mkS a ++ mkS b = mkS (a ++ b):=by
 apply ByteArray.ext;rw [ByteArray.data_append];simp [mkS]
theorem mkS_lit (a:Array UInt8):(⟨a⟩:ByteArray) = mkS a.toList:=by simp [mkS]
theorem ret_i {k:IntKind} {a b:Int} (h:a = b):Value.int k a = .int k b:=by rw [h]
theorem ret_str {a b:ByteArray} (h:a = b):Ending.returned (.string a) = .returned (.string b):=by rw [h]
structure At (w:World) (rb:Nat) (s:List UInt8) (bad:Bool):Prop where
 c0:w.cell? ⟨rb,0,none⟩ = some (.string (mkS s))
 c1:w.cell? ⟨rb,1,none⟩ = some (.bool bad)
 f0:w.frozen? ⟨rb,0,none⟩ = false
 f1:w.frozen? ⟨rb,1,none⟩ = false
 len:s.length <= 70368744177664
theorem At.lt {w:World} {rb:Nat} {s:List UInt8} {bad:Bool} (h:At w rb s bad):rb < w.heap.size:=World.block_lt_of_cell? w ⟨rb,0,none⟩ h.c0
structure Step (w w':World) (rb:Nat) (s:List UInt8) (bad:Bool):Prop where
 grown:w.grownBy w' (some rb)
 at':At w' rb s bad
theorem Step.refl {w:World} {rb:Nat} {s:List UInt8} {bad:Bool} (h:At w rb s bad):Step w w rb s bad:=⟨World.grownBy.refl _ _,h⟩
theorem Step.trans {a b c:World} {rb:Nat} {s t:List UInt8} {x y:Bool} (h:Step a b rb s x) (k:Step b c rb t y):Step a c rb t y:=⟨h.grown.trans k.grown,k.at'⟩
theorem grown_setCell (w:World) (a:Addr) (u:Value):w.grownBy (w.setCell a u) (some a.block):=
 ⟨rfl,rfl,rfl,by simp,fun k hk hne=>by
  have:k ≠ a.block:=fun e=>hne (by rw [e])
  simp [World.setCell,Array.getElem?_modify]
  intro e
  exact absurd e.symm this⟩
theorem At.set0 {w:World} {rb:Nat} {s t:List UInt8} {bad:Bool} (h:At w rb s bad) (ht:t.length <= 70368744177664):At (w.setCell ⟨rb,0,none⟩ (.string (mkS t))) rb t bad:=
 ⟨World.cell?_setCell_same _ _ _ h.c0,by rw [Zo _ _ _ _ (by simp)];exact h.c1,by rw [World.frozen?_setCell];exact h.f0,by rw [World.frozen?_setCell];exact h.f1,ht⟩
theorem At.set1 {w:World} {rb:Nat} {s:List UInt8} {bad:Bool} (h:At w rb s bad) (b:Bool):At (w.setCell ⟨rb,1,none⟩ (.bool b)) rb s b:=
 ⟨by rw [Zo _ _ _ _ (by simp)];exact h.c0,World.cell?_setCell_same _ _ _ h.c1,by rw [World.frozen?_setCell];exact h.f0,by rw [World.frozen?_setCell];exact h.f1,h.len⟩
theorem At.kept {w w1:World} {rb:Nat} {s:List UInt8} {bad:Bool} (h:At w rb s bad) (hb:Below w.heap.size w w1):At w1 rb s bad:=
 ⟨hb.cell (p:=⟨rb,0,none⟩) h.lt |>.trans h.c0,hb.cell (p:=⟨rb,1,none⟩) h.lt |>.trans h.c1,hb.frozen (p:=⟨rb,0,none⟩) h.lt |>.trans h.f0,hb.frozen (p:=⟨rb,1,none⟩) h.lt |>.trans h.f1,h.len⟩
theorem Step.set0 {w0 w:World} {rb:Nat} {s t:List UInt8} {bad:Bool} (h:Step w0 w rb s bad) (ht:t.length <= 70368744177664):Step w0 (w.setCell ⟨rb,0,none⟩ (.string (mkS t))) rb t bad:=
 ⟨h.grown.trans (grown_setCell _ _ _),h.at'.set0 ht⟩
theorem Step.set1 {w0 w:World} {rb:Nat} {s:List UInt8} {bad:Bool} (h:Step w0 w rb s bad) (b:Bool):Step w0 (w.setCell ⟨rb,1,none⟩ (.bool b)) rb s b:=
 ⟨h.grown.trans (grown_setCell _ _ _),h.at'.set1 b⟩
theorem Step.below {w0 w w1:World} {rb:Nat} {s:List UInt8} {bad:Bool} (h:Step w0 w rb s bad) (hb:Below w.heap.size w w1):Step w0 w1 rb s bad:=
 ⟨h.grown.trans ⟨hb.os,hb.tape,hb.output,hb.size,fun k hk _=>hb.block k hk⟩,h.at'.kept hb⟩
theorem bcell {W w1:World} (hb:Below W.heap.size W w1):(∀ b o,b < W.heap.size -> w1.cell? ⟨b,o,none⟩ = W.cell? ⟨b,o,none⟩)/\(∀ b o,b < W.heap.size -> w1.frozen? ⟨b,o,none⟩ = W.frozen? ⟨b,o,none⟩):=
 ⟨fun b o h=>hb.cell (p:=⟨b,o,none⟩) h,fun b o h=>hb.frozen (p:=⟨b,o,none⟩) h⟩
theorem gcell {W w1:World} {rb:Nat} (hg:W.grownBy w1 (some rb)):(∀ b o,b < W.heap.size -> ¬ b = rb -> w1.cell? ⟨b,o,none⟩ = W.cell? ⟨b,o,none⟩)/\(∀ b o,b < W.heap.size -> ¬ b = rb -> w1.frozen? ⟨b,o,none⟩ = W.frozen? ⟨b,o,none⟩):=
 ⟨fun b o h hne=>World.cell?_of_block (a:=⟨b,o,none⟩) (hg.block b h (by simp;exact hne)),fun b o h hne=>World.frozen?_of_block (a:=⟨b,o,none⟩) (hg.block b h (by simp;exact hne))⟩
theorem Step.from {w0 w w':World} {rb:Nat} {s:List UInt8} {bad:Bool} (hb:Below w0.heap.size w0 w) (h:Step w w' rb s bad):Step w0 w' rb s bad:=
 ⟨⟨h.grown.os.trans hb.os,h.grown.tape.trans hb.tape,h.grown.output.trans hb.output,Zh hb.size h.grown.size,fun k hk hne=>(h.grown.block k (Nat.lt_of_lt_of_le hk hb.size) hne).trans (hb.block k hk)⟩,h.at'⟩
theorem Step.other {w0 w:World} {rb g j:Nat} {s:List UInt8} {bad:Bool} (h:Step w0 w rb s bad) (hg:w0.heap.size <= g) (hne:g ≠ rb) (u:Value):Step w0 (w.setCell ⟨g,j,none⟩ u) rb s bad:=
 ⟨⟨h.grown.os,h.grown.tape,h.grown.output,by rw [World.size_setCell];exact h.grown.size,fun k hk hn=>by
   have hkg:k ≠ g:=by omega
   rw [<- h.grown.block k hk hn];simp [World.setCell,Array.getElem?_modify];intro e;exact absurd e.symm hkg⟩,
  ⟨by rw [Zo _ _ _ _ (by simp;try (intro e;exact absurd e hne))];exact h.at'.c0,by rw [Zo _ _ _ _ (by simp;try (intro e;exact absurd e hne))];exact h.at'.c1,
   by rw [World.frozen?_setCell];exact h.at'.f0,by rw [World.frozen?_setCell];exact h.at'.f1,h.at'.len⟩⟩
theorem Step.alloc {w0 w:World} {rb:Nat} {s:List UInt8} {bad:Bool} (h:Step w0 w rb s bad) (o:Obj):Step w0 (w.alloc o) rb s bad:=
 h.below ((bR _ _).alloc (lR _) o)
theorem mkS_nil:mkS [] = ⟨#[]⟩:=rfl
theorem drop1 (r:List UInt8):(mkS r).extract 1 r.length = mkS (r.drop 1):=by rw [mkS_extract,List.take_of_length_le (by simp)]
theorem drop2 (r:List UInt8):(mkS r).extract 2 r.length = mkS (r.drop 2):=by rw [mkS_extract,List.take_of_length_le (by simp)]
theorem drop3 (r:List UInt8):(mkS r).extract 3 r.length = mkS (r.drop 3):=by rw [mkS_extract,List.take_of_length_le (by simp)]
theorem prefix_len (p r:List UInt8) (h:p.isPrefixOf r = true):p.length <= r.length:=by
 rw [List.isPrefixOf_iff_prefix] at h;exact h.length_le
theorem Step.drew {w0 w:World} {rb:Nat} {s:List UInt8} {bad:Bool} (h:Step w0 w rb s bad):Step w0 w.drew rb s bad:=
 ⟨⟨h.grown.os,h.grown.tape,h.grown.output,h.grown.size,h.grown.block⟩,⟨h.at'.c0,h.at'.c1,h.at'.f0,h.at'.f1,h.at'.len⟩⟩
theorem Step.belowB {w0 w w1:World} {rb:Nat} {s:List UInt8} {bad:Bool} (h:Step w0 w rb s bad) (hb:Below w0.heap.size w w1) (hr:rb < w0.heap.size):Step w0 w1 rb s bad:=
 ⟨⟨hb.os.trans h.grown.os,hb.tape.trans h.grown.tape,hb.output.trans h.grown.output,Zh h.grown.size hb.size,fun k hk hne=>(hb.block k hk).trans (h.grown.block k hk hne)⟩,
  ⟨hb.cell (p:=⟨rb,0,none⟩) hr |>.trans h.at'.c0,hb.cell (p:=⟨rb,1,none⟩) hr |>.trans h.at'.c1,hb.frozen (p:=⟨rb,0,none⟩) hr |>.trans h.at'.f0,hb.frozen (p:=⟨rb,1,none⟩) hr |>.trans h.at'.f1,h.at'.len⟩⟩
end Rd
namespace Utf
open Go.Lib
structure Chunk (l ch t:List UInt8) (c:Nat):Prop where
 eq:l = ch ++ t
 dec:decodeL l = (c,ch.length)
 ge:128 <= c
 le:c <= 1114111
 high:∀ b ∈ ch,128 <= b.toNat
 two:2 <= ch.length
 four:ch.length <= 4
 enc:encodeRune (c:Int) = ch
 rlen:runeLen (c:Int) = (ch.length:Int)
 valid:Lib.validRune (c:Int) = true
 rest:validD t = true
theorem len_take (l:List UInt8) (k:Nat) (h:k <= l.length):(l.take k).length = k:=by simp;omega
theorem step (l:List UInt8) (hne:l ≠ []) (hv:validD l = true) :
  (∃ b t,l = b :: t/\b.toNat < 128/\decodeL l = (b.toNat,1)/\validD t = true) \/ ∃ ch t c,Chunk l ch t c:=by
 have hs:=validD_step l hne;rw [hv] at hs;have hbad:¬ ((decodeL l).1 = 65533/\(decodeL l).2 = 1):=fun h=>by rw [if_pos h] at hs;cases hs
 rw [if_neg hbad] at hs;have hl:0 < l.length:=List.length_pos_iff.2 hne;have henc:=encode_decode l hne hbad;have hle:=decodeL_le l hne;obtain ⟨b0,t0,rfl⟩:∃ b t,l = b :: t:=by cases l with
  | nil=>exact absurd rfl hne
  | cons b t=>exact ⟨b,t,rfl⟩
 by_cases ha:b0.toNat < 128
 ·
  left;have hd:=decodeL_ascii b0 t0 ha;rw [hd] at hs;exact ⟨b0,t0,rfl,ha,hd,hs.symm⟩
 ·
  right;have k0:=b0.toNat_lt;have hN:=decodeL_N (b0 :: t0);have hN':=hN;rw [List.getD_cons_zero] at hN';have sh:=decodeN_shape (b0 :: t0).length b0.toNat ((b0 :: t0).getD 1 0).toNat ((b0 :: t0).getD 2 0).toNat ((b0 :: t0).getD 3 0).toNat;rw [<- hN'] at sh;generalize hD:decodeL (b0 :: t0) = D at *;obtain ⟨c,k⟩:=D;dsimp only at *;have key:128 <= c/\c <= 1114111/\2 <= k/\k <= 4/\(∀ b ∈ (b0 :: t0).take k,128 <= b.toNat)/\runeLen (c:Int) = (k:Int)/\Lib.validRune (c:Int) = true:=by
   rcases sh with ⟨c1,e⟩ | ⟨c1,c2,c3,cv,e⟩ | ⟨c1,c2,c3,c4,cv,cs,e⟩ | ⟨c1,c2,c3,c4,c5,cv,cw,e⟩ | e
   ·
    omega
   ·
    simp only [Prod.mk.injEq] at e;obtain ⟨e1,rfl⟩:=e;refine ⟨by omega,by omega,by omega,by omega,?_,?_,?_⟩
    ·
     rw [takeB _ c2];intro b hb;simp only [List.mem_cons,List.not_mem_nil,or_false] at hb;rcases hb with rfl | rfl
     ·
      omega
     ·
      omega
    ·
     unfold runeLen;repeat' split
     all_goals omega
    ·
     unfold Lib.validRune;rw [decide_eq_true_iff];omega
   ·
    simp only [Prod.mk.injEq] at e;obtain ⟨e1,rfl⟩:=e;refine ⟨by omega,by omega,by omega,by omega,?_,?_,?_⟩
    ·
     rw [takeC _ c2];intro b hb;simp only [List.mem_cons,List.not_mem_nil,or_false] at hb;rcases hb with rfl | rfl | rfl
     ·
      omega
     ·
      omega
     ·
      omega
    ·
     unfold runeLen;repeat' split
     all_goals omega
    ·
     unfold Lib.validRune;rw [decide_eq_true_iff];omega
   ·
    simp only [Prod.mk.injEq] at e;obtain ⟨e1,rfl⟩:=e;refine ⟨by omega,by omega,by omega,by omega,?_,?_,?_⟩
    ·
     rw [takeD _ c2];intro b hb;simp only [List.mem_cons,List.not_mem_nil,or_false] at hb;rcases hb with rfl | rfl | rfl | rfl
     ·
      omega
     ·
      omega
     ·
      omega
     ·
      omega
    ·
     unfold runeLen;repeat' split
     all_goals omega
    ·
     unfold Lib.validRune;rw [decide_eq_true_iff];omega
   ·
    simp only [Prod.mk.injEq] at e;exact absurd e hbad
  obtain ⟨p1,p2,p3,p4,p5,p6,p7⟩:=key;have hlk:=len_take (b0 :: t0) k hle;exact ⟨(b0 :: t0).take k,(b0 :: t0).drop k,c,(List.take_append_drop _ _).symm,by rw [hD,hlk],p1,p2,p5,by omega,by omega,henc,by rw [hlk];exact p6,p7,hs.symm⟩
end Utf
namespace TermPure
open Go.Lib Utf
structure Term where
 kind:Int
 text:List UInt8
 extra:List UInt8
deriving DecidableEq
def runesGo:Nat -> List UInt8 -> List Nat
 | 0,_=>[]
 | n + 1,l=>if l = [] then [] else (decodeL l).1 :: runesGo n (l.drop (decodeL l).2)
def runes (l:List UInt8):List Nat:=runesGo l.length l
theorem runesGo_nil:∀ n,runesGo n [] = []
 | 0=>rfl
 | n + 1=>by rw [runesGo,if_pos rfl]
theorem runesGo_fuel:∀ (n m:Nat) (l:List UInt8),l.length <= n -> l.length <= m -> runesGo n l = runesGo m l
 | 0,m,l,hn,_=>by
  have:l = []:=Zn (by omega)
  subst this
  rw [runesGo_nil,runesGo_nil]
 | n + 1,0,l,_,hm=>by
  have:l = []:=Zn (by omega)
  subst this
  rw [runesGo_nil,runesGo_nil]
 | n + 1,m + 1,l,hn,hm=>by
  by_cases hne:l = []
  ·
   subst hne;rw [runesGo_nil,runesGo_nil]
  ·
   have hw:=decodeL_width l
   have hl:0 < l.length:=List.length_pos_iff.2 hne
   rw [runesGo,runesGo,if_neg hne,if_neg hne,runesGo_fuel n m _ (by rw [Zj];omega) (by rw [Zj];omega)]
theorem runes_step (l:List UInt8) (hne:l ≠ []):runes l = (decodeL l).1 :: runes (l.drop (decodeL l).2):=by
 have hw:=decodeL_width l;have hl:0 < l.length:=List.length_pos_iff.2 hne;obtain ⟨n,hn⟩:∃ n,l.length = n + 1:=⟨l.length - 1,by omega⟩;unfold runes;rw [hn,runesGo,if_neg hne,runesGo_fuel n (l.drop (decodeL l).2).length _ (by rw [Zj];omega) (lR _)]
theorem runes_ascii (b:UInt8) (t:List UInt8) (h:b.toNat < 128):runes (b :: t) = b.toNat :: runes t:=by
 rw [runes_step _ (by simp),decodeL_ascii b t h]
 try rfl
theorem runes_chunk {l ch t:List UInt8} {c:Nat} (h:Chunk l ch t c):runes l = c :: runes t:=by
 have hne:l ≠ []:=by
  intro e;have h1:=h.eq;have h2:=h.two;rw [e] at h1;have:=congrArg List.length h1;rw [Zl] at this;simp at this;omega
 rw [runes_step l hne,h.dec];dsimp only;rw [h.eq,List.drop_left]
def odd:List Nat:=[34,60,62,92,94,96,123,124,125]
def iriRune (r:Nat):Bool:=(decide (32 < r) && decide (r < 127) && !odd.contains r) || decide (160 <= r)
def isIRI (s:List UInt8):Bool:=decide (s ≠ []) && (decide (s.length <= 60) && (validD s && (runes s).all iriRune))
def alnum (r:Nat):Bool:=(decide (97 <= r) && decide (r <= 122)) || (decide (65 <= r) && decide (r <= 90)) || (decide (48 <= r) && decide (r <= 57))
def isLabel (s:List UInt8):Bool:=decide (s ≠ []) && (decide (s.length <= 8) && s.all fun b=>alnum b.toNat)
def langGo:Bool -> Nat -> List UInt8 -> Bool
 | _,n,[]=>decide (0 < n)
 | later,n,b :: l =>
  if b = 45 then decide (0 < n) && langGo true 0 l
  else if (decide (97 <= b.toNat) && decide (b.toNat <= 122)) || (later && (decide (48 <= b.toNat) && decide (b.toNat <= 57))) then decide (n < 8) && langGo later (n + 1) l
  else false
def isLang (s:List UInt8):Bool:=langGo false 0 s && decide (s.length <= 16)
def isText (s:List UInt8):Bool:=decide (s.length <= 30) && validD s
def is (t:Term):Bool:=
 if t.kind = 1 then isIRI t.text && decide (t.extra = [])
 else if t.kind = 2 then isLabel t.text && decide (t.extra = [])
 else if t.kind = 3 then isText t.text && decide (t.extra = [])
 else if t.kind = 4 then isText t.text && isLang t.extra
 else if t.kind = 5 then isText t.text && isIRI t.extra
 else false
def hexD (n:Nat):UInt8:=UInt8.ofNat (if n < 10 then 48 + n else 55 + n)
def escB (b:UInt8):List UInt8:=
 if b = 34 then [92,34] else if b = 92 then [92,92] else if b = 10 then [92,110] else if b = 13 then [92,114] else if b = 9 then [92,116] else if b = 8 then [92,98] else if b = 12 then [92,102]
 else if b.toNat < 32 \/ b.toNat = 127 then [92,117,48,48,hexD (b.toNat / 16),hexD (b.toNat % 16)] else [b]
def quoted (s:List UInt8):List UInt8:=34 :: (s.flatMap escB ++ [34])
def shown (t:Term):List UInt8:=
 if t.kind = 1 then 60 :: (t.text ++ [62])
 else if t.kind = 2 then 95 :: 58 :: t.text
 else if t.kind = 4 then quoted t.text ++ 64 :: t.extra
 else if t.kind = 5 then quoted t.text ++ (94 :: 94 :: 60 :: (t.extra ++ [62]))
 else quoted t.text
end TermPure
namespace Tx
open Go.RowKit Go.Lib B Rd Utf TermPure
theorem encode_eq (n:Nat) (hv:Lib.validRune (n:Int) = true):Utf8.encode (n:Int) = mkS (encodeRune (n:Int)):=by
 unfold Lib.validRune at hv;rw [decide_eq_true_iff] at hv;have hval:Utf8.valid (n:Int) = true:=by
  unfold Utf8.valid;simp;omega
 unfold Utf8.encode;rw [hval];simp only [if_true,Int.toNat_natCast];by_cases h1:n < 128
 ·
  rw [if_pos h1,encodeRune,encodeRuneZ_one (by omega) (by omega)]
  try rfl
 ·
  rw [if_neg h1];by_cases h2:n < 2048
  ·
   rw [if_pos h2,encodeRune,encodeRuneZ_two (by omega) (by omega)]
   try rfl
  ·
   rw [if_neg h2];by_cases h3:n < 65536
   ·
    rw [if_pos h3,encodeRune,encodeRuneZ_three (by omega)]
    try rfl
   ·
    rw [if_neg h3,encodeRune];have:encodeRuneZ (n:Int) = [240 + (n:Int) / 262144,128 + (n:Int) / 4096 % 64,128 + (n:Int) / 64 % 64,128 + (n:Int) % 64]:=by
     unfold encodeRuneZ;rw [if_neg (by omega),if_neg (by omega),if_neg (by omega),if_pos (by omega)]
    rw [this]
    try rfl
theorem runesBytes_one (n:Nat) (hv:Lib.validRune (n:Int) = true):runesBytes [(n:Int)] = mkS (encodeRune (n:Int)):=by
 show ByteArray.empty ++ Utf8.encode (n:Int) = _;rw [encode_eq n hv,show ByteArray.empty = mkS [] from rfl,mkS_append]
 try rfl
theorem runesFrom_eq (l:List UInt8):∀ (f i:Nat) (acc:Array Value),l.length <= i + f -> Conv.runesFrom (mkS l) f i acc = acc ++ ((runesGo f (l.drop i)).map fun (c:Nat)=>Value.int .i32 (c:Int)).toArray
 | 0,i,acc,h=>by
  rw [show l.drop i = [] from List.drop_eq_nil_of_le (by omega)];simp [Conv.runesFrom,runesGo]
 | f + 1,i,acc,h=>by
  have hd:decodeL (l.drop i) = Utf8.decode (mkS l) i:=decodeL_drop (mkS l) i;unfold Conv.runesFrom;rw [mkS_size];by_cases hi:i < l.length
  ·
   have hne:l.drop i ≠ []:=by
    intro h0;have:=congrArg List.length h0;rw [Zj] at this;simp at this;omega
   have hw:=decodeL_width (l.drop i);rw [if_pos hi,<- hd,runesGo,if_neg hne];generalize decodeL (l.drop i) = D at *;obtain ⟨c,k⟩:=D;dsimp only at *;rw [runesFrom_eq l f (i + k) _ (by omega),List.drop_drop];simp
  ·
   rw [if_neg hi,show l.drop i = [] from List.drop_eq_nil_of_le (by omega),runesGo_nil];simp
theorem runesFrom_all (l:List UInt8):Conv.runesFrom (mkS l) (mkS l).size 0 #[] = ((runes l).map fun (c:Nat)=>Value.int .i32 (c:Int)).toArray:=by
 rw [mkS_size,runesFrom_eq l _ 0 #[] (by omega)];simp [runes]
theorem runesGo_len:∀ (f:Nat) (l:List UInt8),(runesGo f l).length <= l.length
 | 0,l=>by simp [runesGo]
 | f + 1,l=>by
  rw [runesGo]
  split
  ·
   simp
  ·
   rename_i h
   have hw:=decodeL_width l
   have hl:0 < l.length:=List.length_pos_iff.2 h
   have:=runesGo_len f (l.drop (decodeL l).2)
   rw [Zj] at this
   simp
   omega
theorem runes_len (l:List UInt8):(runes l).length <= l.length:=runesGo_len _ _
theorem conv_rune (n:Nat) (hv:Lib.validRune (n:Int) = true) (W:World) :
  Sem.run Tryz.prog (convert 210 9 (.slice (some ⟨W.heap.size,0,none⟩) 1 1)) (W.alloc (.cells #[.int .i32 (n:Int)] 21)) = .ok (.string (mkS (encodeRune (n:Int)))) (W.alloc (.cells #[.int .i32 (n:Int)] 21)):=by
 have h:=run_convert_runes (P:=Tryz.prog) (W.alloc (.cells #[.int .i32 (n:Int)] 21)) 210 9 21 ⟨W.heap.size,0,none⟩ 1 1 [(n:Int)] (by simp) underlying210 underlying21 underlying9
  (fun j hj=>by
   obtain rfl:j = 0:=by simp at hj;exact hj
   rw [Addr.add_zero'];unfold World.cell?;dsimp only;rw [Kd.heap_new];rfl)
 rw [h];simp only [List.take_succ_cons,List.take_zero];rw [runesBytes_one n hv]
end Tx
end Go.Proofs.YtnplommdgfgboaaGreatDoor
namespace Go.Proofs
open Go.Shelf
def Tryz.sortIds_ren:Go.Shelf.Ren:=⟨fun | 6=>91 | 15=>102 | 14=>135 | 28=>142 | 29=>143 | 20=>175 | 21=>176 | 22=>177 | 23=>178 | 24=>179 | 25=>180 | 26=>181 | 27=>182 | 46=>215 | 47=>211 | 48=>212 | 49=>216 | 50=>217 | 57=>243 | n=>n,fun | 22=>48 | 24=>40 | 25=>147 | 3=>3 | 39=>83 | 0=>0 | 53=>192 | 55=>194 | 4=>4 | 46=>218 | 45=>217 | 50=>94 | 5=>5 | 9=>9 | 66=>252 | 70=>256 | 76=>273 | 77=>274 | n=>n,fun | n=>n⟩
theorem Tryz.sortIds:Go.Proofs.SlLaysF0.n6 Tryz.prog Tryz.sortIds_ren:=by
 constructor
 case f6=>exact ⟨Tryz.f91.name,by decide,fx func91⟩
 case f14=>exact ⟨Tryz.f135.name,by decide,fx func135⟩
 case f20=>exact ⟨Tryz.f175.name,by decide,fx func175⟩
 case f21=>exact ⟨Tryz.f176.name,by decide,fx func176⟩
 case f22=>exact ⟨Tryz.f177.name,by decide,fx func177⟩
 case f23=>exact ⟨Tryz.f178.name,by decide,fx func178⟩
 case f24=>exact ⟨Tryz.f179.name,by decide,fx func179⟩
 case f25=>exact ⟨Tryz.f180.name,by decide,fx func180⟩
 case f26=>exact ⟨Tryz.f181.name,by decide,fx func181⟩
 case f27=>exact ⟨Tryz.f182.name,by decide,fx func182⟩
 case f46=>exact ⟨Tryz.f215.name,by decide,fx func215⟩
 case f49=>exact ⟨Tryz.f216.name,by decide,fx func216⟩
 case f50=>exact ⟨Tryz.f217.name,by decide,fx func217⟩
 case f57=>exact ⟨Tryz.f243.name,by decide,fx func243⟩
 all_goals first | kernel_rfl | (intro w;kernel_rfl) | (constructor <;> first | kernel_rfl | (intro w;kernel_rfl))
def Tryz.sortTerm_ren:Go.Shelf.Ren:=⟨fun | 6=>88 | 15=>102 | 14=>133 | 28=>142 | 29=>143 | 20=>166 | 21=>167 | 22=>168 | 23=>169 | 24=>170 | 25=>171 | 26=>172 | 27=>173 | 46=>210 | 47=>211 | 48=>212 | 49=>213 | 50=>214 | 57=>242 | n=>n,fun | 22=>31 | 24=>24 | 25=>33 | 3=>3 | 39=>83 | 0=>0 | 53=>192 | 55=>194 | 4=>4 | 46=>218 | 45=>217 | 50=>94 | 5=>5 | 9=>9 | 66=>252 | 70=>256 | 76=>273 | 77=>274 | n=>n,fun | n=>n⟩
theorem Tryz.sortTerm:Go.Proofs.SlLaysF0.n6 Tryz.prog Tryz.sortTerm_ren:=by
 constructor
 case f6=>exact ⟨Tryz.f88.name,by decide,fx func88⟩
 case f14=>exact ⟨Tryz.f133.name,by decide,fx func133⟩
 case f20=>exact ⟨Tryz.f166.name,by decide,fx func166⟩
 case f21=>exact ⟨Tryz.f167.name,by decide,fx func167⟩
 case f22=>exact ⟨Tryz.f168.name,by decide,fx func168⟩
 case f23=>exact ⟨Tryz.f169.name,by decide,fx func169⟩
 case f24=>exact ⟨Tryz.f170.name,by decide,fx func170⟩
 case f25=>exact ⟨Tryz.f171.name,by decide,fx func171⟩
 case f26=>exact ⟨Tryz.f172.name,by decide,fx func172⟩
 case f27=>exact ⟨Tryz.f173.name,by decide,fx func173⟩
 case f46=>exact ⟨Tryz.f210.name,by decide,fx func210⟩
 case f49=>exact ⟨Tryz.f213.name,by decide,fx func213⟩
 case f50=>exact ⟨Tryz.f214.name,by decide,fx func214⟩
 case f57=>exact ⟨Tryz.f242.name,by decide,fx func242⟩
 all_goals first | kernel_rfl | (intro w;kernel_rfl) | (constructor <;> first | kernel_rfl | (intro w;kernel_rfl))
def Tryz.lays196_ren:Go.Shelf.Ren:=⟨fun | 196=>123 | 259=>154 | n=>n,fun | 9=>9 | 4=>4 | 3=>3 | 5=>5 | 12=>12 | 119=>206 | 0=>0 | 46=>83 | 139=>209 | 138=>208 | 53=>194 | n=>n,fun | 3=>0 | 4=>1 | n=>n⟩
theorem Tryz.lays196:Go.Proofs.Lays.n196 Tryz.prog Tryz.lays196_ren:=by constructor <;> first | kernel_rfl | (intro w;kernel_rfl) | (constructor <;> first | kernel_rfl | (intro w;kernel_rfl))
def Tryz.lays161b_ren:Go.Shelf.Ren:=⟨fun | 161=>159 | 231=>200 | 227=>201 | 233=>202 | 235=>203 | 228=>231 | 197=>204 | 151=>232 | 260=>233 | 152=>249 | 137=>261 | 119=>262 | 224=>198 | 225=>197 | 217=>196 | 266=>229 | n=>n,fun | 9=>9 | 4=>4 | 3=>3 | 5=>5 | 117=>242 | 116=>241 | 0=>0 | 124=>245 | 105=>246 | 21=>21 | 119=>206 | 46=>83 | 139=>209 | 138=>208 | n=>n,fun | 3=>0 | 4=>1 | n=>n⟩
theorem Tryz.lays161b:Go.Proofs.Lays.n161 Tryz.prog Tryz.lays161b_ren:=by constructor <;> first | kernel_rfl | (intro w;kernel_rfl) | (constructor <;> first | kernel_rfl | (intro w;kernel_rfl))
def Tryz.lays159_ren:Go.Shelf.Ren:=⟨fun | 159=>208 | 165=>239 | 166=>106 | 167=>141 | 169=>107 | 230=>240 | 204=>241 | 240=>145 | 241=>254 | 197=>204 | 118=>250 | 168=>236 | 270=>255 | 262=>256 | 276=>186 | 277=>265 | 260=>233 | 242=>252 | 313=>266 | 278=>264 | 274=>269 | 275=>270 | n=>n,fun | 9=>9 | 4=>4 | 3=>3 | 5=>5 | 72=>161 | 0=>0 | 76=>164 | 75=>163 | 107=>272 | 70=>159 | 20=>20 | 37=>55 | 127=>197 | 21=>21 | 105=>246 | 164=>232 | 162=>288 | 203=>286 | 119=>206 | 46=>83 | 139=>209 | 138=>208 | 51=>192 | 160=>290 | 208=>296 | 206=>294 | 80=>57 | n=>n,fun | 13=>3 | 3=>0 | 4=>1 | n=>n⟩
theorem Tryz.lays159:Go.Proofs.Lays.n159 Tryz.prog Tryz.lays159_ren:=by constructor <;> first | kernel_rfl | (intro w;kernel_rfl) | (constructor <;> first | kernel_rfl | (intro w;kernel_rfl))
theorem Tryz.Builder_Extra_159:Builder.Extra Tryz.prog Tryz.lays159_ren:={
 sizeBuilder:=by kernel_rfl
 liesBuilder:=by kernel_rfl
 t5:=underlying5
 a5:=isAgg5
 z5:=sizeOf5
 v5:=zeroValue5
 infoByte:=by kernel_rfl
 cellsByte:=by kernel_rfl
 sizeByte:=by kernel_rfl
 neB5:=by decide }
open Go.RowKit in
theorem Tryz.strings_ToLower_ascii (s:ByteArray) (w:World) (hs:s.size <= 140737488355328) (hascii:∀ (j:Nat) (b:UInt8),s.data.toList[j]? = some b -> b.toNat < 128) :
  Calls Tryz.prog 208 #[.string s] w fun e w'=>e = .returned (.string ⟨(Lib.toLowerA s.data.toList).toArray⟩)/\Below w.heap.size w w':=Any.strings_ToLower_ascii Tryz.lays159 Tryz.Builder_Extra_159 s w hs hascii
def Tryz.lays118_ren:Go.Shelf.Ren:=⟨fun | 118=>250 | n=>n,fun | 21=>21 | 3=>3 | 4=>4 | n=>n,fun | n=>n⟩
theorem Tryz.lays118:Go.Proofs.Lays.n118 Tryz.prog Tryz.lays118_ren:=by constructor <;> first | kernel_rfl | (intro w;kernel_rfl) | (constructor <;> first | kernel_rfl | (intro w;kernel_rfl))
theorem Tryz.utf8_RuneLen (r:Int) (w:World) :
  Calls Tryz.prog 250 #[.int .i32 r] w fun e w'=>e = .returned (.int .i64 (Lib.runeLen r))/\w' = w:=Any.utf8_RuneLen Tryz.lays118 r w
def Tryz.lays119_ren:Go.Shelf.Ren:=⟨fun | 119=>262 | n=>n,fun | 21=>21 | 4=>4 | n=>n,fun | n=>n⟩
theorem Tryz.lays119:Go.Proofs.Lays.n119 Tryz.prog Tryz.lays119_ren:=by constructor <;> first | kernel_rfl | (intro w;kernel_rfl) | (constructor <;> first | kernel_rfl | (intro w;kernel_rfl))
theorem Tryz.utf8_ValidRune (r:Int) (w:World) :
  Calls Tryz.prog 262 #[.int .i32 r] w fun e w'=>e = .returned (.bool (Lib.validRune r))/\w' = w:=Any.utf8_ValidRune Tryz.lays119 r w
def Tryz.lays125_ren:Go.Shelf.Ren:=⟨fun | 125=>102 | 128=>142 | 129=>143 | n=>n,fun | 46=>83 | 3=>3 | 51=>192 | 53=>194 | 4=>4 | 5=>5 | 9=>9 | n=>n,fun | n=>n⟩
theorem Tryz.lays125:Go.Proofs.Lays.n125 Tryz.prog Tryz.lays125_ren:=by constructor <;> first | kernel_rfl | (intro w;kernel_rfl) | (constructor <;> first | kernel_rfl | (intro w;kernel_rfl))
theorem Tryz.bits_Len (x:Int) (w:World) (h0:0 <= x) (h1:x <= 18446744073709551615) :
  Calls Tryz.prog 102 #[.int .u64 x] w fun e w'=>e = .returned (.int .i64 (Lib.bitLen x.toNat))/\w' = w:=Any.bits_Len Tryz.lays125 x w h0 h1
def Tryz.lays137_ren:Go.Shelf.Ren:=⟨fun | 137=>261 | 217=>196 | 266=>229 | n=>n,fun | 9=>9 | 5=>5 | 3=>3 | n=>n,fun | n=>n⟩
theorem Tryz.lays137:Go.Proofs.Lays.n137 Tryz.prog Tryz.lays137_ren:=by constructor <;> first | kernel_rfl | (intro w;kernel_rfl) | (constructor <;> first | kernel_rfl | (intro w;kernel_rfl))
open Go.RowKit in
theorem Tryz.strings_IndexByte (s:ByteArray) (c:Int) (w:World) :
  Calls Tryz.prog 261 #[.string s,.int .u8 c] w fun e w'=>e = .returned (.int .i64 (Lib.indexByte s.data.toList c.toNat.toUInt8))/\w' = w:=Any.strings_IndexByte Tryz.lays137 s c w
def Tryz.lays103_ren:Go.Shelf.Ren:=⟨fun | 103=>206 | 210=>237 | 206=>253 | n=>n,fun | 9=>9 | 4=>4 | 24=>249 | 3=>3 | n=>n,fun | n=>n⟩
theorem Tryz.lays103:Go.Proofs.Lays.n103 Tryz.prog Tryz.lays103_ren:=by constructor <;> first | kernel_rfl | (intro w;kernel_rfl) | (constructor <;> first | kernel_rfl | (intro w;kernel_rfl))
open Go.RowKit in
theorem Tryz.strings_CutPrefix (s p:ByteArray) (w:World) :
  Calls Tryz.prog 206 #[.string s,.string p] w fun e w'=>e = .returned (.tuple #[.string ⟨(Lib.trimPrefix s.data.toList p.data.toList).toArray⟩,.bool (Lib.hasPrefix s.data.toList p.data.toList)])/\w' = w:=Any.strings_CutPrefix Tryz.lays103 s p w
def Tryz.lays122_ren:Go.Shelf.Ren:=⟨fun | 122=>136 | 215=>183 | n=>n,fun | 3=>3 | 4=>4 | n=>n,fun | n=>n⟩
theorem Tryz.lays122:Go.Proofs.Lays.n122 Tryz.prog Tryz.lays122_ren:=by constructor <;> first | kernel_rfl | (intro w;kernel_rfl) | (constructor <;> first | kernel_rfl | (intro w;kernel_rfl))
open Go.RowKit in
theorem Tryz.cmp_Compare_int (x y:Int) (w:World) :
  Calls Tryz.prog 136 #[.int .i64 x,.int .i64 y] w fun e w'=>e = .returned (.int .i64 (Lib.compareInt x y))/\w' = w:=Any.cmp_Compare_int Tryz.lays122 x y w
def Tryz.lays145_ren:Go.Shelf.Ren:=⟨fun | 145=>85 | 220=>127 | 219=>157 | 217=>196 | 225=>197 | 224=>198 | 267=>199 | 266=>229 | 314=>230 | n=>n,fun | 9=>9 | 4=>4 | 59=>139 | 3=>3 | 5=>5 | 46=>83 | 146=>264 | 51=>192 | n=>n,fun | 1=>2 | n=>n⟩
theorem Tryz.lays145:Go.Proofs.Lays.n145 Tryz.prog Tryz.lays145_ren:=by constructor <;> first | kernel_rfl | (intro w;kernel_rfl) | (constructor <;> first | kernel_rfl | (intro w;kernel_rfl))
open Go.RowKit Go.Lib in
theorem Tryz.strings_Cut (s sep:ByteArray) (m:Int) (w:World) (hs:s.size < 4294967281) (hm:w.cell? ⟨2,0,none⟩ = some (.int .i64 m)) :
  Calls Tryz.prog 85 #[.string s,.string sep] w fun e w'=>e = .returned (.tuple #[.string ⟨(Lib.cut s.data.toList sep.data.toList).1.toArray⟩,.string ⟨(Lib.cut s.data.toList sep.data.toList).2.1.toArray⟩,.bool (Lib.cut s.data.toList sep.data.toList).2.2])/\∃ n,w' = w.drewN n:=Any.strings_Cut Tryz.lays145 s sep m w hs hm
def Tryz.laysM219_ren:Go.Shelf.Ren:=⟨fun | 219=>157 | 217=>196 | 225=>197 | 224=>198 | 267=>199 | 266=>229 | 314=>230 | n=>n,fun | 9=>9 | 3=>3 | 4=>4 | 5=>5 | 46=>83 | 146=>264 | 51=>192 | n=>n,fun | 1=>2 | n=>n⟩
theorem Tryz.laysM219:Go.Proofs.LaysM.n219 Tryz.prog Tryz.laysM219_ren:=by
 constructor
 case s1_3=>exact fun w h=>Go.Proofs.cell_of_shapedOpen_int (zero:=#[.int .i64 0]) (t:=3) h (of_decide_eq_true (by kernel_rfl)) (by kernel_rfl) rfl (by kernel_rfl) (by kernel_rfl) underlying3
 all_goals first | kernel_rfl | (intro w;kernel_rfl) | (constructor <;> first | kernel_rfl | (intro w;kernel_rfl))
def Tryz.lays272_ren:Go.Shelf.Ren:=⟨fun | 272=>207 | 315=>238 | n=>n,fun | 9=>9 | 40=>211 | 4=>4 | 3=>3 | 0=>0 | 21=>21 | n=>n,fun | n=>n⟩
theorem Tryz.lays272:Go.Proofs.Lays.n272 Tryz.prog Tryz.lays272_ren:=by constructor <;> first | kernel_rfl | (intro w;kernel_rfl) | (constructor <;> first | kernel_rfl | (intro w;kernel_rfl))
def Tryz.laysGw17_ren:Go.Shelf.Ren:=⟨fun | 17=>245 | 15=>257 | 20=>238 | n=>n,fun | 9=>9 | 23=>211 | 4=>4 | 3=>3 | 0=>0 | 21=>21 | n=>n,fun | n=>n⟩
theorem Tryz.laysGw17:Go.Proofs.LaysGw.n17 Tryz.prog Tryz.laysGw17_ren:=by constructor <;> first | kernel_rfl | (intro w;kernel_rfl) | (constructor <;> first | kernel_rfl | (intro w;kernel_rfl))
def Tryz.lays102_ren:Go.Shelf.Ren:=⟨fun | 102=>86 | 209=>128 | 207=>158 | n=>n,fun | 9=>9 | 4=>4 | 3=>3 | n=>n,fun | n=>n⟩
theorem Tryz.lays102:Go.Proofs.Lays.n102 Tryz.prog Tryz.lays102_ren:=by constructor <;> first | kernel_rfl | (intro w;kernel_rfl) | (constructor <;> first | kernel_rfl | (intro w;kernel_rfl))
open Go.RowKit Go.Lib in
theorem Tryz.strings_TrimSuffix (s p:ByteArray) (w:World) (hs:s.size <= 9223372036854775807) :
  Calls Tryz.prog 86 #[.string s,.string p] w fun e w'=>e = .returned (.string ⟨(Lib.trimSuffix s.data.toList p.data.toList).toArray⟩)/\w' = w:=Any.strings_TrimSuffix Tryz.lays102 s p w hs
def Tryz.lays146_ren:Go.Shelf.Ren:=⟨fun | 146=>225 | 221=>247 | 268=>258 | 138=>259 | 143=>260 | 195=>267 | 197=>204 | 218=>268 | 219=>157 | 260=>233 | 217=>196 | 225=>197 | 224=>198 | 267=>199 | 266=>229 | 314=>230 | n=>n,fun | 9=>9 | 31=>51 | 3=>3 | 4=>4 | 0=>0 | 105=>246 | 21=>21 | 5=>5 | 46=>83 | 119=>206 | 139=>209 | 138=>208 | 146=>264 | 51=>192 | n=>n,fun | 1=>2 | 3=>0 | 4=>1 | n=>n⟩
theorem Tryz.lays146:Go.Proofs.Lays.n146 Tryz.prog Tryz.lays146_ren:=by constructor <;> first | kernel_rfl | (intro w;kernel_rfl) | (constructor <;> first | kernel_rfl | (intro w;kernel_rfl))
open Go.RowKit Go.Lib in
theorem Tryz.strings_Split (s sep:ByteArray) (m:Int) (w:World) (hs:s.size < 4294967281) (hm:w.cell? ⟨2,0,none⟩ = some (.int .i64 m)) (h1:1 <= sep.size) :
  Calls Tryz.prog 225 #[.string s,.string sep] w fun e w' =>
   e = .returned (.slice (some ⟨w.heap.size,0,none⟩) (Lib.countB s sep + 1) (Lib.countB s sep + 1))/\w' = w.alloc (.cells ((Lib.splitB sep 0 (Lib.countB s sep) s).map Value.string).toArray 9):=Any.strings_Split Tryz.lays146 (by kernel_rfl) s sep m w hs hm h1
def Tryz.lays197_ren:Go.Shelf.Ren:=⟨fun | 197=>204 | 260=>233 | n=>n,fun | 9=>9 | 21=>21 | 3=>3 | 4=>4 | 5=>5 | 105=>246 | 119=>206 | 0=>0 | 46=>83 | 139=>209 | 138=>208 | n=>n,fun | 3=>0 | 4=>1 | n=>n⟩
theorem Tryz.lays197:Go.Proofs.Lays.n197 Tryz.prog Tryz.lays197_ren:=by constructor <;> first | kernel_rfl | (intro w;kernel_rfl) | (constructor <;> first | kernel_rfl | (intro w;kernel_rfl))
def Tryz.lays152_ren:Go.Shelf.Ren:=⟨fun | 152=>249 | 137=>261 | 119=>262 | 224=>198 | 225=>197 | 217=>196 | 266=>229 | n=>n,fun | 9=>9 | 21=>21 | 3=>3 | 4=>4 | 5=>5 | 0=>0 | 46=>83 | n=>n,fun | n=>n⟩
theorem Tryz.lays152:Go.Proofs.Lays.n152 Tryz.prog Tryz.lays152_ren:=by constructor <;> first | kernel_rfl | (intro w;kernel_rfl) | (constructor <;> first | kernel_rfl | (intro w;kernel_rfl))
open Go.RowKit Go.Lib in
theorem Tryz.strings_IndexRune_ascii (s:ByteArray) (r:Int) (w:World) (h0:0 <= r) (h1:r < 128) :
  Calls Tryz.prog 249 #[.string s,.int .i32 r] w fun e w'=>e = .returned (.int .i64 (Lib.indexByte s.data.toList r.toNat.toUInt8))/\w' = w:=Any.strings_IndexRune_ascii Tryz.lays152 s r w h0 h1
def Tryz.lays151_ren:Go.Shelf.Ren:=⟨fun | 151=>232 | 152=>249 | 137=>261 | 119=>262 | 224=>198 | 225=>197 | 217=>196 | 266=>229 | n=>n,fun | 9=>9 | 21=>21 | 4=>4 | 3=>3 | 5=>5 | 0=>0 | 46=>83 | n=>n,fun | n=>n⟩
theorem Tryz.lays151:Go.Proofs.Lays.n151 Tryz.prog Tryz.lays151_ren:=by constructor <;> first | kernel_rfl | (intro w;kernel_rfl) | (constructor <;> first | kernel_rfl | (intro w;kernel_rfl))
open Go.RowKit Go.Lib in
theorem Tryz.strings_ContainsRune_ascii (s:ByteArray) (r:Int) (w:World) (h0:0 <= r) (h1:r < 128) :
  Calls Tryz.prog 232 #[.string s,.int .i32 r] w fun e w'=>e = .returned (.bool (decide (0 <= Lib.indexByte s.data.toList r.toNat.toUInt8)))/\w' = w:=Any.strings_ContainsRune_ascii Tryz.lays151 s r w h0 h1
open Go.RowKit Go.Lib in
theorem Tryz.utf8_DecodeRuneInString (s:ByteArray) (w:World) (hT:Lib.Utf8Tabs 0 1 w) :
  Calls Tryz.prog 204 #[.string s] w fun e w'=>e = .returned (.tuple #[.int .i32 (Lib.decodeGo s).1,.int .i64 (Lib.decodeGo s).2])/\Below w.heap.size w w':=Any.utf8_DecodeRuneInString Tryz.lays197 s w hT
open Go.RowKit Go.Lib in
theorem Tryz.strings_TrimLeftFunc_grows (g:Nat) (lb:Array Value) (eg:∀ args w,(callFunc g args).run Tryz.prog w = .ok (.enter g args) w) (p:Nat -> Bool) (s:ByteArray) (w:World) (hp:PredGrows Tryz.prog g lb p w) :
  Calls Tryz.prog 207 #[.string s,.func (.func g) #[] lb] w fun e w'=>e = .returned (.string (Lib.trimLeftF p s))/\Below w.heap.size w w':=Any.strings_TrimLeftFunc_grows Tryz.lays272 g lb eg p s w hp
open Go.RowKit Go.Lib in
theorem Tryz.strings_ContainsFunc_grows (g:Nat) (lb:Array Value) (eg:∀ args w,(callFunc g args).run Tryz.prog w = .ok (.enter g args) w) (p:Nat -> Bool) (s:ByteArray) (w:World) (hp:PredGrows Tryz.prog g lb p w) :
  Calls Tryz.prog 245 #[.string s,.func (.func g) #[] lb] w fun e w'=>e = .returned (.bool (decide (0 <= Lib.idxFunc p true s)))/\Below w.heap.size w w':=Any.strings_ContainsFunc_grows Tryz.laysGw17 g lb eg p s w hp
end Go.Proofs
namespace Go.Proofs.YtnplommdgfgboaaGreatDoor
namespace SB
theorem lays240:Go.Proofs.Lays.n240 Tryz.prog Tryz.lays159_ren:={ Tryz.lays159 with }
theorem lays166:Go.Proofs.Lays.n166 Tryz.prog Tryz.lays159_ren:={ Tryz.lays159 with }
theorem lays168:Go.Proofs.Lays.n168 Tryz.prog Tryz.lays159_ren:={ Tryz.lays159 with }
theorem lays169:Go.Proofs.Lays.n169 Tryz.prog Tryz.lays159_ren:={ Tryz.lays159 with }
end SB
namespace Env
open Go.RowKit Go.Lib B Rd Utf TermPure Tx
structure Env (w:World):Prop where
 tabs:Lib.Utf8Tabs 0 1 w
 len:∃ m,w.cell? ⟨2,0,none⟩ = some (.int .i64 m)
theorem Env.below {w w':World} (h:Env w) (hb:Below w.heap.size w w'):Env w':=
 ⟨Utf8Tabs_below h.tabs hb,by
  obtain ⟨m,hm⟩:=h.len
  exact ⟨m,(hb.cell (p:=⟨2,0,none⟩) (World.block_lt_of_cell? w _ hm)).trans hm⟩⟩
def lowB:Nat:=(max (max 0 1) 2) + 1
theorem Env.low {w:World} (h:Env w):lowB <= w.heap.size:=by
 have h1:=World.block_lt_of_cell? w _ (h.tabs.1 0 (by decide));have h2:=World.block_lt_of_cell? w _ (h.tabs.2 0 (by decide)).1;obtain ⟨m,hm⟩:=h.len;have h3:=World.block_lt_of_cell? w _ hm;dsimp only at h1 h2 h3;unfold lowB;omega
theorem Env.kept {w w':World} (h:Env w) (hb:∀ k,k < lowB -> k < w.heap.size -> w'.heap[k]? = w.heap[k]?):Env w':=by
 have cl:∀ {g o:Nat} {v:Value},g < lowB -> w.cell? ⟨g,o,none⟩ = some v -> w'.cell? ⟨g,o,none⟩ = some v:=fun {g o v} hg hc =>
  (World.cell?_of_block (a:=⟨g,o,none⟩) (hb g hg (World.block_lt_of_cell? w _ hc))).trans hc
 obtain ⟨m,hm⟩:=h.len;exact ⟨⟨fun c hc=>cl (by decide) (h.tabs.1 c hc),fun i hi=>⟨cl (by decide) (h.tabs.2 i hi).1,cl (by decide) (h.tabs.2 i hi).2⟩⟩,m,cl (by decide) hm⟩
theorem Env.grown {w w':World} {rb:Nat} (h:Env w) (hg:w.grownBy w' (some rb)) (hr:lowB <= rb):Env w':=
 h.kept fun k h8 hk=>hg.block k hk (by simp;omega)
theorem Env.step {w w':World} {rb:Nat} {s:List UInt8} {bad:Bool} (h:Env w) (hs:Step w w' rb s bad) (hr:lowB <= rb):Env w':=h.grown hs.grown hr
theorem Env.set {w:World} (h:Env w) {g j:Nat} (hg:lowB <= g) (u:Value):Env (w.setCell ⟨g,j,none⟩ u):=h.grown (Rd.grown_setCell w ⟨g,j,none⟩ u) hg
theorem Env.belowB {w w':World} {B:Nat} (h:Env w) (hb:Below B w w') (hl:lowB <= B):Env w':=h.kept fun k hk _=>hb.block k (Nat.lt_of_lt_of_le hk hl)
theorem valid_calls (l:List UInt8) (hl:l.length <= 9223372036854775807) (w:World) (he:Env w) :
  Calls Tryz.prog 123 #[.string (mkS l)] w fun e w'=>e = .returned (.bool (validD l))/\Below w.heap.size w w':=
 Any.utf8_ValidString Tryz.lays196 (mkS l) w (by rw [mkS_size];exact hl) he.tabs
theorem decode_calls (l:List UInt8) (hl:l ≠ []) (w:World) (he:Env w) :
  Calls Tryz.prog 204 #[.string (mkS l)] w fun e w'=>e = .returned (.tuple #[.int .i32 ((decodeL l).1:Nat),.int .i64 ((decodeL l).2:Nat)])/\Below w.heap.size w w':=by
 refine (Tryz.utf8_DecodeRuneInString (mkS l) w he.tabs).mono ?_;rintro e w' ⟨h1,h2⟩;refine ⟨?_,h2⟩
 have hd:Lib.decodeGo (mkS l) = decodeL l:=by
  unfold Lib.decodeGo;rw [if_neg (by rw [mkS_size];intro e;exact hl (Zn e))];exact (decodeL_drop (mkS l) 0).symm
 rw [h1,hd]
theorem cutPrefix_calls (s p:List UInt8) (w:World) :
  Calls Tryz.prog 206 #[.string (mkS s),.string (mkS p)] w fun e w'=>e = .returned (.tuple #[.string (mkS (if p.isPrefixOf s then s.drop p.length else s)),.bool (p.isPrefixOf s)])/\w = w':=
 (Tryz.strings_CutPrefix (mkS s) (mkS p) w).mono fun e w' ⟨h1,h2⟩=>⟨h1,h2.symm⟩
theorem asciiSet_info:(Tryz.prog.info? 241).map (fun i=>(i.zero,i.size)) = some (some (.agg (Array.replicate 256 (.bool false))),256):=by kernel_rfl
theorem trimLeft_calls (s c:List UInt8) (hc:c.length < 4294967281) (ha:∀ b ∈ c,b.toNat < 128) (w:World) :
  Calls Tryz.prog 159 #[.string (mkS s),.string (mkS c)] w fun e w'=>e = .returned (.string (mkS (s.dropWhile (c.contains ·))))/\Below w.heap.size w w':=
 Any.strings_TrimLeft_laid Tryz.lays161b asciiSet_info (mkS s) (mkS c) w (by rw [mkS_size];exact hc) (fun j b hb=>ha b (List.mem_of_getElem? hb))
theorem containsRune_calls (s:List UInt8) (n:Nat) (hn:n < 128) (w:World) :
  Calls Tryz.prog 232 #[.string (mkS s),.int .i32 (n:Int)] w fun e w'=>e = .returned (.bool (s.contains (UInt8.ofNat n)))/\w = w':=by
 refine (Tryz.strings_ContainsRune_ascii (mkS s) n w (by omega) (by omega)).mono fun e w' ⟨h1,h2⟩=>⟨?_,h2.symm⟩
 rw [h1];have key:∀ (l:List UInt8) (c:UInt8),decide (0 <= indexByte l c) = l.contains c:=by
  intro l c
  induction l with
  | nil=>rfl
  | cons b l ih =>
   rw [List.contains_cons];unfold indexByte;have hge:=indexByte_ge l c;by_cases hbc:b = c
   ·
    subst hbc;simp
   ·
    have hbc':(c == b) = false:=by rw [Zb];exact fun e=>hbc e.symm
    have hbc2:(b == c) = false:=by rw [Zb];exact hbc
    rw [hbc',hbc2,Bool.false_or,<- ih];simp;by_cases h1:indexByte l c = -1
    ·
     rw [h1];decide
    ·
     rw [if_neg h1];constructor
     ·
      intro h;omega
     ·
      intro h;omega
 rw [key]
 try rfl
theorem idxFrom_any (p:Nat -> Bool) (l:List UInt8):∀ (f i:Nat),l.length <= i + f -> decide (0 <= idxFuncFrom p true (mkS l) f i) = (runesGo f (l.drop i)).any p
 | 0,i,h=>by
  rw [show l.drop i = [] from List.drop_eq_nil_of_le (by omega)]
  try rfl
 | f + 1,i,h=>by
  unfold idxFuncFrom;rw [mkS_size];by_cases hi:i < l.length
  ·
   have hne:l.drop i ≠ []:=by
    intro h0;have:=congrArg List.length h0;rw [Zj] at this;simp at this;omega
   have hd:decodeL (l.drop i) = Utf8.decode (mkS l) i:=decodeL_drop (mkS l) i;have hw:=decodeL_width (l.drop i);rw [if_pos hi,runesGo,if_neg hne,<- hd];generalize decodeL (l.drop i) = D at *;obtain ⟨c,k⟩:=D;dsimp only at *;rw [List.any_cons,List.drop_drop,<- idxFrom_any p l f (i + k) (by omega)];cases p c with
   | true=>simp
   | false=>simp
  ·
   rw [if_neg hi,show l.drop i = [] from List.drop_eq_nil_of_le (by omega),runesGo_nil]
   try rfl
theorem contains_any (p:Nat -> Bool) (l:List UInt8):decide (0 <= Lib.idxFunc p true (mkS l)) = (runes l).any p:=by
 unfold Lib.idxFunc;rw [mkS_size,idxFrom_any p l _ 0 (by omega)]
 try rfl
theorem trim_from (p:Nat -> Bool) (hp:∀ c,128 <= c -> p c = false) (l:List UInt8):∀ (f i:Nat),l.length <= i + f ->
  (if idxFuncFrom p false (mkS l) f i = -1 then [] else l.drop (idxFuncFrom p false (mkS l) f i).toNat) = (l.drop i).dropWhile (fun b=>p b.toNat)
 | 0,i,h=>by
  rw [show l.drop i = [] from List.drop_eq_nil_of_le (by omega)]
  try rfl
 | f + 1,i,h=>by
  unfold idxFuncFrom;rw [mkS_size];by_cases hi:i < l.length
  ·
   have hd:decodeL (l.drop i) = Utf8.decode (mkS l) i:=decodeL_drop (mkS l) i;rw [if_pos hi,<- hd];have hc:l.drop i = l[i] :: l.drop (i + 1):=List.drop_eq_getElem_cons hi;by_cases ha:l[i].toNat < 128
   ·
    rw [hc,decodeL_ascii _ _ ha,List.dropWhile_cons];dsimp only;cases hpc:p l[i].toNat with
    | false =>
     simp
    | true =>
     have:=trim_from p hp l f (i + 1) (by omega);simp;exact this
   ·
    have h128:128 <= (decodeL (l.drop i)).1:=by
     rw [hd];exact (decode_high (mkS l) i (by rw [mkS_size];exact hi) (by show 128 <= l[i].toNat;omega)).1
    rw [hp _ h128];rw [hc,List.dropWhile_cons,hp l[i].toNat (by omega)];simp
  ·
   rw [if_neg hi,show l.drop i = [] from List.drop_eq_nil_of_le (by omega)]
   try rfl
theorem trimF_eq (p:Nat -> Bool) (hp:∀ c,128 <= c -> p c = false) (l:List UInt8):Lib.trimLeftF p (mkS l) = mkS (l.dropWhile (fun b=>p b.toNat)):=by
 have h:=trim_from p hp l l.length 0 (by omega);unfold Lib.trimLeftF Lib.idxFunc;rw [mkS_size];rw [List.drop_zero] at h;rw [<- h]
 split
 ·
  rfl
 ·
  rw [mkS_extract,List.take_of_length_le (by simp)]
theorem runes_conv (s:List UInt8) (hs:s.length <= 70368744177664) (w:World):∃ (cap:Nat) (C:Array Value),(runes s).length <= cap/\cap <= maxLen /\
  Sem.run Tryz.prog (convert 9 210 (.string (mkS s))) w = .ok (.slice (some ⟨w.heap.size,0,none⟩) (runes s).length cap) (w.drew.alloc (.cells C 21)) /\
  ∀ k (h:k < (runes s).length),C[k]? = some (.int .i32 ((runes s)[k]:Int)):=by
 have hsz:(Conv.runesFrom (mkS s) (mkS s).size 0 #[]).size = (runes s).length:=by rw [runesFrom_all];simp
 have hl:=runes_len s;have h:=run_runes_of_string (P:=Tryz.prog) w 9 210 21 (mkS s) underlying9 underlying210 underlying21 (by rw [hsz];omega);rw [hsz,runesFrom_all] at h;refine ⟨grownCap w (runes s).length 0 21,_,grownCap_ge _ _ _ _,?_,h,?_⟩
 ·
  exact grownCap_le_maxLen _ _ _ _ (by unfold maxLen;omega)
 ·
  intro k hk;rw [Array.getElem?_append_left (by simp;exact hk)];simp;exact ⟨_,Zg hk,rfl⟩
theorem bytes_conv (s:List UInt8) (hs:s.length <= 70368744177664) (w:World):∃ (cap:Nat) (o:Obj),s.length <= cap/\cap <= maxLen /\
  Sem.run Tryz.prog (convert 9 55 (.string (mkS s))) w = .ok (.slice (some ⟨w.heap.size,0,none⟩) s.length cap) (w.drew.alloc o) /\
  ∀ W:World,W.heap.size = w.heap.size -> ∀ k (h:k < s.length),(W.alloc o).cell? ⟨w.heap.size,k,none⟩ = some (.int .u8 (s[k].toNat:Int))/\(W.alloc o).frozen? ⟨w.heap.size,k,none⟩ = false:=by
 have h:=run_bytes_of_string (P:=Tryz.prog) w 9 55 5 (mkS s) underlying9 underlying55 underlying5;rw [mkS_size] at h;refine ⟨grownCap w s.length 0 5,_,grownCap_ge _ _ _ _,grownCap_le_maxLen _ _ _ _ (by unfold maxLen;omega),h,?_⟩;intro W hW k hk;have hb:=bytesRow_at (mkS s) (grownCap w s.length 0 5) k (by show k < s.toArray.size;simpa using hk);have hsz:k < (bytesRow (mkS s) (grownCap w s.length 0 5)).size:=(Array.getElem?_eq_some_iff.1 hb).1;constructor
 ·
  unfold World.cell?;dsimp only;rw [<- hW,Kd.heap_new];exact hb
 ·
  unfold World.frozen?;dsimp only;rw [<- hW,Kd.heap_new];simp;omega
end Env
namespace Card
open Go.Lib Go.Proofs Env
theorem laidMet_turn {P:Program} {w:World} {n1 n2 n3:String} {d1 d2 d3:DataW Unit} (h:laidMet P [(n1,d1),(n2,d2),(n3,d3)] w):laidMet P [(n1,d1),(n3,d3),(n2,d2)] w:=by
 obtain ⟨ps,hv,hn,hall⟩:=h;obtain ⟨g1,t1,c1,f1,p1,q1,a1,a2,a3,a4,⟨g2,t2,c2,f2,p2,q2,b1,b2,b3,b4,⟨g3,t3,c3,f3,p3,q3,e1,e2,e3,e4,he,rfl⟩,rfl⟩,rfl⟩:=hv;obtain rfl:q3 = []:=he;simp only [Ze] at hn hall;refine ⟨_,⟨g1,t1,c1,f1,p1,_,a1,a2,a3,a4,⟨g3,t3,c3,f3,p3,_,e1,e2,e3,e4,⟨g2,t2,c2,f2,p2,[],b1,b2,b3,b4,rfl,rfl⟩,rfl⟩,rfl⟩,?_,?_⟩
 ·
  simp only [Ze];refine (List.Perm.nodup_iff ?_).1 hn
  first
   | exact List.Perm.append_left _ List.perm_append_comm
   | (simp only [Za];refine List.Perm.append_left _ ?_;simp only [<- Za];refine (List.Perm.append_right _ List.perm_append_comm).trans ?_;simp)
   | (simp only [<- Za];exact List.Perm.append_left _ List.perm_append_comm)
   | skip
 ·
  intro b off hb;refine hall b off ?_;simp only [Ze,Zk] at hb |-;rcases hb with h | h
  ·
   first | exact .inl h | (rcases h with h | h <;> simp [h])
  ·
   first | (rcases h with h | h <;> simp [h]) | simp [h]
def laidG:List (String × DataW Unit):=[("unicode/utf8.acceptRanges", Rows.laid_unicode_utf8_acceptRanges),("unicode.CaseRanges", Rows.laid_unicode_CaseRanges),("unicode/utf8.first", Rows.laid_unicode_utf8_first)]
def laid3:List (String × DataW Unit):=[("unicode/utf8.acceptRanges", Lib.acceptData),("unicode.CaseRanges", Lib.caseData),("unicode/utf8.first", Lib.firstData)]
theorem accept_eq:(Rows.laid_unicode_utf8_acceptRanges:DataW Unit) = Lib.acceptData:=by kernel_rfl
theorem laid_eq:laidG = laid3:=by
 unfold laidG laid3 Rows.laid_unicode_CaseRanges Rows.laid_unicode_utf8_first;rw [accept_eq,Pinned.caseRanges_eq,Pinned.utf8First_eq]
theorem u8:U8Extra Tryz.prog Tryz.lays159_ren:=⟨by kernel_rfl,by kernel_rfl,by kernel_rfl,by kernel_rfl,by kernel_rfl,by kernel_rfl,by kernel_rfl⟩
theorem case':CaseExtra Tryz.prog Tryz.lays159_ren:=⟨by kernel_rfl,by kernel_rfl,by kernel_rfl,by kernel_rfl,by kernel_rfl,by kernel_rfl⟩
theorem env_of {W:World} (h:laidMet Tryz.prog laidG W) (hsh:W.ShapedOpen Tryz.prog):Env W:=by
 rw [laid_eq] at h;exact ⟨utf8Tabs_of_reads { Tryz.lays159 with } u8 (Lib.laidMet.reads h (.tail _ (.tail _ (.head _)))) (Lib.laidMet.reads h (.head _)),Tryz.laysM219.s1_3 W hsh⟩
noncomputable def laidWorld (os:Os):World:=
 let N:=(World.settled Tryz.prog os).heap.size
 let w0:=World.holding Tryz.prog os ⟨#[.cells Lib.caseCells5 (Tryz.lays159_ren.t 208)],#[],[]⟩
 let put (h:Array Obj) (g:Nat) (cs:Array Value):Array Obj:=h.modify g fun
  | .cells _ t frozen=>.cells cs t frozen
  | o=>o
 let h2:=put w0.heap (Tryz.lays159_ren.g 3) (Lib.firstTab.map fun z=>Value.int .u8 z).toArray
 let h3:=put h2 (Tryz.lays159_ren.g 4) ((List.range 16).flatMap fun i=>[Value.int .u8 (Lib.accLo i),Value.int .u8 (Lib.accHi i)]).toArray
 let h5:=put h3 (Tryz.lays159_ren.g 13) #[.slice (some ⟨N,0,none⟩) 336 336]
 { w0 with heap:=h5 }
theorem laid_met3 (os:Os) (args:Array Value):laidMet Tryz.prog [("unicode/utf8.acceptRanges", Lib.acceptData),("unicode/utf8.first", Lib.firstData),("unicode.CaseRanges", Lib.caseData)] ((laidWorld os).forCall (fun _ _=>0) ⟨#[],args,[]⟩).memory:=
 laidMet_with_case (ρ:=Tryz.lays159_ren) { Tryz.lays159 with } Tryz.lays159.t206 case'
  (l:=[("unicode/utf8.acceptRanges", Lib.acceptData),("unicode/utf8.first", Lib.firstData)])
  10 (by kernel_rfl) (by kernel_rfl) (by kernel_rfl) ((World.settled Tryz.prog default).heap.size) (Tryz.lays159_ren.t 208) (of_decide_eq_true (by kernel_rfl)) (by kernel_rfl) (by kernel_rfl) (by kernel_rfl)
theorem laid_met (os:Os) (args:Array Value):laidMet Tryz.prog laidG ((laidWorld os).forCall (fun _ _=>0) ⟨#[],args,[]⟩).memory:=by
 rw [laid_eq];exact laidMet_turn (laid_met3 os args)
end Card
namespace MonoD
open Go Go.RowKit
def rw {α:Type}:Result α -> World
 | .ok _ w=>w
 | .halt _ w=>w
theorem ask_mono {α:Type}:∀ (a:Ask α) (w:World),w.drawn <= (w.ask a).2.drawn
 | .done a,w=>lR _
 | .ask what range k,w=>by
  rw [World.ask]
  split
  ·
   exact ask_mono (k 0) w
  ·
   exact Zh (Nat.le_succ _) (ask_mono (k _) { w with drawn:=w.drawn + 1 })
theorem sys_mono (w:World) (c:Sys):w.drawn <= (w.sys c).2.drawn:=by
 unfold World.sys;have h:=ask_mono (Kernel.perform c w.os) w
 split
 ·
  exact lR _
 ·
  rename_i r os w' _ he
  rw [he] at h;exact h
theorem freeze_drawn (w:World) (a:Addr) (n:Nat):(w.freeze a n).drawn = w.drawn:=by
 unfold World.freeze
 split <;> rfl
theorem farStore_drawn {p:Program} {w w':World} {a:Addr} {v:Value} {b:Bool} {l:List Addr} (h:w.farStore p a v b = .ok (w',l)):w'.drawn = w.drawn:=by
 unfold World.farStore at h
 split at h
 ·
  split at h
  ·
   rename_i r hr
   simp only [Except.ok.injEq] at h;subst h;unfold World.viewStore at hr;simp only [bind,Except.bind,pure,Except.pure] at hr
   repeat' split at hr
   all_goals first | (cases hr;done) | (cases hr;rfl) | skip
  ·
   cases h
 ·
  cases h
theorem run_mono {α:Type} (p:Program) (e:Sem α):∀ w:World,w.drawn <= (rw (e.run p w)).drawn:=by
 induction e with
 | pure a=>intro w;exact lR _
 | load m a k ih =>
  intro w;rw [Sem.run]
  split
  ·
   exact ih _ w
  ·
   split
   ·
    exact ih _ w
   ·
    exact lR _
 | store m a v k ih =>
  intro w;have key:w.drawn <= (rw (match w.cell? a with
   | some _=>if w.frozen? a then Result.halt (.unsupported (.unsafePointer "a write to bytes that a string shares")) w else k.run p (w.setCell a v)
   | none=>match w.farStore p a v (m == .atomic) with
    | .ok (w,_)=>k.run p w
    | .error h=>.halt h w)).drawn:=by
   split
   ·
    split
    ·
     exact lR _
    ·
     exact ih (w.setCell a v)
   ·
    split
    ·
     rename_i w' l hw
     have:=ih w'
     rwa [farStore_drawn hw] at this
    ·
     exact lR _
  cases v <;> first | exact lR _ | exact key
 | new o k ih=>intro w;rw [Sem.run];exact ih _ { w with heap:=w.heap.push o }
 | shape r k ih=>intro w;rw [Sem.run];exact ih _ _
 | freeze a n k ih =>
  intro w;rw [Sem.run];have:=ih (w.freeze a n)
  rwa [freeze_drawn] at this
 | frozen a k ih=>intro w;rw [Sem.run];exact ih _ _
 | getObj r k ih =>
  intro w;rw [Sem.run]
  split
  ·
   exact lR _
  ·
   exact ih _ w
  ·
   exact lR _
 | setObj r o k ih =>
  intro w;rw [Sem.run]
  split
  ·
   exact lR _
  ·
   exact ih { w with heap:=w.heap.setIfInBounds r o }
  ·
   exact lR _
 | choose q k ih =>
  intro w;rw [Sem.run]
  split
  ·
   exact ih _ w
  ·
   exact Zh (Nat.le_succ _) (ih _ { w with drawn:=w.drawn + 1 })
 | sys c k ih=>intro w;rw [Sem.run];exact Zh (sys_mono w c) (ih _ _)
 | program k ih=>intro w;rw [Sem.run];exact ih _ w
 | mark m k ih=>intro w;rw [Sem.run];exact ih w
 | halt h=>intro w;exact lR _
theorem runT_mono {α:Type} (p:Program) (e:Sem α) (w:World) (es:Array Event):w.drawn <= (rw (e.runT p w es).1).drawn:=by rw [Sem.runT_fst];exact run_mono p e w
theorem of_run {α:Type} {p:Program} {e:Sem α} {w:World} {r:Result α} (h:e.run p w = r):w.drawn <= (rw r).drawn:=h ▸ run_mono p e w
theorem of_runT {α:Type} {p:Program} {e:Sem α} {w:World} {es:Array Event} {x:Result α × Array Event} (h:e.runT p w es = x):w.drawn <= (rw x.1).drawn:=h ▸ runT_mono p e w es
def gw:GStep -> World
 | .go _ w _=>w
 | .comm _ _ _ _ w _=>w
 | .spawn _ _ w _=>w
 | .count _ w _=>w
 | .timer _ _ w _=>w
 | .alone _ _ w _=>w
 | .newcoro _ _ _ w _=>w
 | .coroswitch _ _ _ w _=>w
 | .collect _ w _=>w
 | .watch _ w _=>w
 | .ended _ w _=>w
theorem gw_after (es:Array Event) (s:GStep):gw (GStep.after es s) = gw s:=by cases s <;> rfl
theorem endWith_mono (w:World) (fd:Nat) (t:ByteArray) (o:Outcome):w.drawn <= (gw (endWith w fd t o)).drawn:=by
 have h:=sys_mono w (.write fd t);unfold endWith;generalize w.sys (.write fd t) = x at *;obtain ⟨r,w'⟩:=x;dsimp only at *
 repeat' split
 all_goals (first | exact h | (simp_all [gw];done) | skip)
theorem endPrinting_w (p:Program) (fr:Frame) (v:Value) (w:World):gw (endPrinting p fr v w) = w:=by
 unfold endPrinting;dsimp only
 split <;> rfl
theorem endFatal_mono (p:Program) (fr:Frame) (callers:List Frame) (dying:Option Dying) (m:String) (w:World):w.drawn <= (gw (endFatal p fr callers dying m w)).drawn:=by
 unfold endFatal;dsimp only
 split
 all_goals first | exact lR _ | (rename_i heq;exact of_run heq) | (rename_i heq _;exact of_run heq)
theorem writeOn_mono (p:Program) (fr:Frame) (d:Dying) (f:Fatal) (w:World):w.drawn <= (gw (writeOn p fr d f w)).drawn:=by
 unfold writeOn;dsimp only
 split
 ·
  exact lR _
 ·
  split
  all_goals first | exact lR _ | (rename_i heq;exact of_runT heq) | (rename_i heq _;exact of_runT heq)
theorem die_mono (p:Program) (fr:Frame) (d:Dying) (w:World):w.drawn <= (gw (die p fr d w)).drawn:=by
 unfold die
 split
 ·
  exact writeOn_mono _ _ _ _ _
 ·
  split
  ·
   split
   ·
    exact lR _
   ·
    exact endWith_mono _ _ _ _
  ·
   dsimp only
   split
   ·
    exact lR _
   ·
    split
    all_goals first | exact lR _ | (rename_i heq;exact of_run heq) | (rename_i heq _;exact of_run heq)
   ·
    rename_i t recv name _
    have h:=runT_mono p (invoke (.fn (.method name) #[]) #[.iface t recv]) w #[];generalize Sem.runT p (invoke (.fn (.method name) #[]) #[.iface t recv]) w #[] = x at *;obtain ⟨r,es⟩:=x;dsimp only at h |-;rw [gw_after]
    split
    all_goals first | exact h | exact lR _ | (rw [endPrinting_w];exact h) | skip
   ·
    exact lR _
theorem doReturn_w (p:Program) (main:Bool) (fr:Frame) (callers:List Frame) (dying:Option Dying) (v:Value) (w:World):gw (doReturn p main fr callers dying v w) = w:=by
 unfold doReturn
 split
 ·
  split <;> rfl
 ·
  split
  ·
   rfl
  ·
   rfl
  ·
   split
   ·
    rfl
   ·
    split <;> rfl
theorem gw_ite {c:Prop} [Decidable c] {a b:GStep} {w:World} (ha:w.drawn <= (gw a).drawn) (hb:w.drawn <= (gw b).drawn):w.drawn <= (gw (if c then a else b)).drawn:=by split <;> assumption
theorem callDeferred_mono (p:Program) (fr:Frame) (callers:List Frame) (dying:Option Dying) (d:Deferred) (w:World):w.drawn <= (gw (callDeferred p fr callers dying d w)).drawn:=by
 unfold callDeferred;refine gw_ite (lR _) ?_
 ·
  dsimp only;have h:=runT_mono p (invoke d.target d.args) w #[];generalize Sem.runT p (invoke d.target d.args) w #[] = x at *;obtain ⟨r,es⟩:=x;dsimp only at h |-;rw [gw_after]
  split
  all_goals first
   | exact h
   | exact Zh h (endFatal_mono _ _ _ _ _ _)
   | (split <;> exact h)
   | skip
theorem unwind_mono (p:Program) (main:Bool) (fr:Frame) (callers:List Frame) (dying:Option Dying) (w:World):w.drawn <= (gw (unwind p main fr callers dying w)).drawn:=by
 unfold unwind
 split
 ·
  rename_i block _ ds _
  have h:=runT_mono p (Instr.takeDeferred block) w #[];generalize Sem.runT p (Instr.takeDeferred block) w #[] = x at *;obtain ⟨r,es⟩:=x;dsimp only at h |-;rw [gw_after]
  split <;> exact h
 ·
  exact callDeferred_mono _ _ _ _ _ _
 ·
  split
  ·
   exact lR _
  ·
   split
   ·
    exact lR _
   ·
    split
    ·
     exact lR _
    ·
     split
     ·
      split
      ·
       exact lR _
      ·
       split
       all_goals first | exact lR _ | (rename_i heq;exact of_run heq) | (rename_i heq _;exact of_run heq)
     ·
      split
      ·
       rw [endPrinting_w];exact lR _
      ·
       exact lR _
  ·
   split
   ·
    rw [doReturn_w];exact lR _
   ·
    rename_i fn _
    have h:=runT_mono p (results fn fr.tmps) w #[];generalize Sem.runT p (results fn fr.tmps) w #[] = x at *;obtain ⟨r,es⟩:=x;dsimp only at h |-;rw [gw_after]
    split
    ·
     rw [doReturn_w];exact h
    ·
     exact h
    ·
     exact h
theorem early_mono (p:Program) (fr:Frame) (callers:List Frame) (dying:Option Dying) (g:Nat) (w:World):w.drawn <= (gw (early p fr callers dying g w)).drawn:=by
 have notYet:∀ w':World,w.drawn <= w'.drawn -> w.drawn <= (gw (match w'.heap[g]? with
  | some (.pending c elem)=>GStep.go { frame:=fr,callers,status:=.running,dying } { w' with heap:=w'.heap.setIfInBounds g (.cells c elem) }
  | _=>.ended (.stuck "early: the variable does not wait" (fr.pos p)) w')).drawn:=fun w' h=>by split <;> exact h
 unfold early;dsimp only
 split
 ·
  exact notYet w (lR _)
 ·
  split
  ·
   exact lR _
  ·
   split
   ·
    exact notYet w (lR _)
   ·
    split
    ·
     exact notYet w (lR _)
    ·
     split
     ·
      exact lR _
     ·
      exact lR _
     ·
      exact lR _
     ·
      exact notYet w (lR _)
     ·
      split
      ·
       exact lR _
      ·
       split
       ·
        exact notYet w (lR _)
       ·
        split
        ·
         rename_i heq;exact notYet _ (of_run heq)
        ·
         rename_i heq;exact of_run heq
        ·
         rename_i heq;exact of_run heq
theorem apply_mono (p:Program) (fr:Frame) (callers:List Frame) (dying:Option Dying) (s:Sem Next) (w:World):w.drawn <= (gw (stepG.apply p true fr callers dying s w)).drawn:=by
 unfold stepG.apply;have h:=runT_mono p s w #[];rw [if_pos rfl];generalize Sem.runT p s w #[] = x at *;obtain ⟨r,es⟩:=x;dsimp only at h |-;rw [gw_after]
 split
 all_goals first
  | exact h
  | exact Zh h (endFatal_mono _ _ _ _ _ _)
  | exact Zh h (early_mono _ _ _ _ _ _)
  | (refine gw_ite ?_ ?_ <;> exact h)
  | (split <;> exact h)
  | skip
theorem oper_mono (p:Program) (fr:Frame) (callers:List Frame) (dying:Option Dying) (w:World):w.drawn <= (gw (stepG.oper p true fr callers dying w)).drawn:=by
 unfold stepG.oper
 split
 ·
  exact lR _
 ·
  split <;> exact apply_mono _ _ _ _ _ _
theorem elim_mono {α:Type} (o:Option α) (a:GStep) (f:α -> GStep) (w:World) (ha:w.drawn <= (gw a).drawn) (hf:∀ x,w.drawn <= (gw (f x)).drawn):w.drawn <= (gw (o.elim a f)).drawn:=by
 cases o
 ·
  exact ha
 ·
  exact hf _
theorem exec_mono (p:Program) (main:Bool) (fr:Frame) (callers:List Frame) (dying:Option Dying) (w:World):w.drawn <= (gw (stepG.exec p main true fr callers dying w)).drawn:=by
 unfold stepG.exec;dsimp only
 split
 ·
  split
  ·
   first | exact lR _ | exact gw_ite (lR _) (lR _)
  ·
   rename_i lo _
   have h:=runT_mono p (Instr.endRound lo none) w #[];generalize Sem.runT p (Instr.endRound lo none) w #[] = x at *;obtain ⟨r,es⟩:=x;dsimp only at h |-;rw [gw_after]
   split
   ·
    rw [doReturn_w];exact h
   ·
    exact h
 ·
  split
  ·
   first | exact lR _ | exact gw_ite (lR _) (lR _)
  ·
   rename_i lo _
   have h:=runT_mono p (Instr.endRound lo (some .ret)) w #[];generalize Sem.runT p (Instr.endRound lo (some .ret)) w #[] = x at *;obtain ⟨r,es⟩:=x;dsimp only at h |-;rw [gw_after]
   split
   ·
    rw [doReturn_w];exact h
   ·
    exact h
 ·
  exact lR _
 ·
  exact lR _
 ·
  exact lR _
 ·
  exact lR _
 ·
  exact lR _
 ·
  split <;> exact lR _
 ·
  exact lR _
 ·
  exact lR _
 ·
  exact lR _
 ·
  exact lR _
 ·
  rename_i id k _
  refine elim_mono _ _ _ _ ?_ (fun _=>lR _)
  split
  ·
   first | exact lR _ | exact gw_ite (lR _) (lR _)
  ·
   rename_i lo _
   have h:=runT_mono p (Instr.endRound lo (some (.exit id))) w #[];generalize Sem.runT p (Instr.endRound lo (some (.exit id))) w #[] = x at *;obtain ⟨r,es⟩:=x;dsimp only at h |-;rw [gw_after]
   split
   ·
    rw [doReturn_w];exact h
   ·
    exact h
 ·
  rename_i lab k _
  refine elim_mono _ _ _ _ ?_ (fun _=>lR _)
  split
  ·
   first | exact lR _ | exact gw_ite (lR _) (lR _)
  ·
   rename_i lo _
   have h:=runT_mono p (Instr.endRound lo (some (.goto lab))) w #[];generalize Sem.runT p (Instr.endRound lo (some (.goto lab))) w #[] = x at *;obtain ⟨r,es⟩:=x;dsimp only at h |-;rw [gw_after]
   split
   ·
    rw [doReturn_w];exact h
   ·
    exact h
 ·
  rename_i f params assign body k _
  have h:=runT_mono p (Instr.enterLoop fr.fn fr.tmps params assign body fr.roundOf) w #[];generalize Sem.runT p (Instr.enterLoop fr.fn fr.tmps params assign body fr.roundOf) w #[] = x at *;obtain ⟨r,es⟩:=x;dsimp only at h |-;rw [gw_after]
  split
  ·
   exact Zh h (apply_mono _ _ _ _ _ _)
  ·
   exact h
 ·
  exact lR _
 ·
  exact apply_mono _ _ _ _ _ _
 ·
  rename_i l k _
  have h:=runT_mono p (Instr.endLoop l) w #[];generalize Sem.runT p (Instr.endLoop l) w #[] = x at *;obtain ⟨r,es⟩:=x;dsimp only at h |-;rw [gw_after]
  split <;> exact h
 ·
  exact lR _
 ·
  exact apply_mono _ _ _ _ _ _
 ·
  exact elim_mono _ _ _ _ (lR _) (fun _=>apply_mono _ _ _ _ _ _)
 ·
  refine gw_ite (lR _) ?_
  split
  ·
   rename_i heq;exact of_run heq
  ·
   rename_i heq;exact of_run heq
 ·
  exact lR _
 ·
  exact gw_ite (oper_mono _ _ _ _ _) (lR _)
theorem stepG_mono (p:Program) (main:Bool) (g:Goroutine) (w:World):w.drawn <= (gw (stepG p main g w)).drawn:=by
 unfold stepG
 split
 split
 ·
  exact die_mono _ _ _ _
 ·
  exact exec_mono _ _ _ _ _ _
 ·
  exact unwind_mono _ _ _ _ _ _
def SM (w:World):Stepped -> Prop
 | .next m=>w.drawn <= m.world.drawn
 | .ended _ _=>True
theorem SM.le {w w':World} {s:Stepped} (h:w.drawn <= w'.drawn) (hs:SM w' s):SM w s:=by
 cases s
 ·
  exact Zh h hs
 ·
  trivial
theorem poller_drawn {rest:Rest} {cases:Array CommCase} {w w':World} (h:waitingAt rest cases w = some w'):w'.drawn = w.drawn:=by
 unfold waitingAt at h
 split at h
 ·
  split at h
  ·
   cases h;rfl
  ·
   cases h
 ·
  cases h;rfl
theorem comm_mono (p:Program) (rest:Rest) (gs:Array Goroutine) (i:Nat) (g:Goroutine) (cases:Array CommCase) (blocking:Bool) (shape:CommShape) (w:World):SM w (communicate p rest gs i g cases blocking shape w).1:=by
 unfold communicate;dsimp only
 split
 ·
  trivial
 ·
  split
  ·
   split
   ·
    split
    ·
     rename_i heq
     exact Nat.le_of_eq (poller_drawn heq).symm
    ·
     trivial
   ·
    exact lR _
  ·
   split
   ·
    trivial
   ·
    rename_i k c way w' heq
    have h1:=of_run heq;refine SM.le (w':=w') h1 ?_
    split
    ·
     split
     ·
      rename_i heq2
      exact of_run heq2
     ·
      trivial
    ·
     exact lR _
    ·
     exact lR _
    ·
     split
     ·
      exact lR _
     ·
      split
      ·
       rename_i heq2
       exact of_run heq2
      ·
       trivial
    ·
     exact lR _
    ·
     exact lR _
    ·
     trivial
theorem look_mono (p:Program) (gs:Array Goroutine) (rest:Rest) (w:World):SM w (look p gs rest w):=by
 unfold look
 split
 ·
  dsimp only
  split
  ·
   trivial
  ·
   split
   ·
    trivial
   ·
    split
    ·
     rename_i heq
     exact of_run heq
    ·
     trivial
    ·
     trivial
 ·
  trivial
theorem drain_w (w:World) (c:Nat):(drain w c).2.drawn = w.drawn:=by
 unfold drain
 split <;> rfl
theorem retime_w (m:Machine) (k:Nat) (t:Timer) (a b:Nat):(retime m k t a b).2.world.drawn = m.world.drawn:=by
 unfold retime;dsimp only [Machine.withTimers]
 split
 ·
  exact drain_w _ _
 ·
  rfl
theorem timer_w {m m':Machine} {op:TimerOp} {v:Value} (h:timerOp m op = .ok (v,m')):m'.world.drawn = m.world.drawn:=by
 have nm:∀ {m0:Machine} {var:Addr} {f:Nat -> Timer -> Value × Machine},(∀ k t,(f k t).2.world.drawn = m.world.drawn) -> timerOp.named m0 var f = .ok (v,m') -> m'.world.drawn = m.world.drawn:=by
  intro m0 var f hf h;unfold timerOp.named at h
  split at h
  ·
   simp only [Except.ok.injEq] at h;have e:=congrArg (fun x:Value × Machine=>x.2.world.drawn) h;exact e.symm.trans (hf _ _)
  ·
   cases h
 unfold timerOp at h
 split at h
 ·
  split at h
  ·
   cases h;rfl
  ·
   split at h
   ·
    split at h
    ·
     cases h
    ·
     cases h;rfl
   ·
    cases h
 ·
  exact nm (fun k t=>retime_w _ _ _ _ _) h
 ·
  split at h
  ·
   rename_i m2 heq
   have h2:m2.world.drawn = m.world.drawn:=by
    unfold timerOp.opened at heq
    split at heq
    ·
     split at heq
     ·
      cases heq;rfl
     ·
      cases heq
    ·
     cases heq;rfl
   exact nm (fun k t=>(retime_w _ _ _ _ _).trans h2) h
  ·
   cases h
 ·
  cases h;rfl
theorem serve_mono (p:Program) (m:Machine) (k:Nat):SM m.world (serve p m k):=by
 unfold serve
 split
 ·
  trivial
 ·
  exact lR _
 ·
  dsimp only
  split
  ·
   trivial
  ·
   exact lR _
theorem runT_machine (p:Program) (m:Machine) (i:Nat):SM m.world (runT p m i).1:=by
 unfold runT;have hs:=fun g=>stepG_mono p (i == 0) g m.world
 dsimp only;generalize (m.gs.swapAt! i { (default:Goroutine) with status:=.finished }) = x;obtain ⟨g,gs⟩:=x;dsimp only;have h:=hs g;generalize stepG p (i == 0) g m.world = s at *;cases s with
 | ended o w es=>trivial
 | comm g cases blocking shape w es=>exact SM.le h (comm_mono _ _ _ _ _ _ _ _ _)
 | go g w es=>exact h
 | spawn g child w es=>exact h
 | count g w es =>
  dsimp only
  split
  ·
   trivial
  ·
   exact h
 | alone g on w es=>exact h
 | collect g w es=>exact SM.le h (look_mono _ _ _ _)
 | watch g w es=>exact h
 | newcoro g c d w es=>exact h
 | coroswitch g c exit w es =>
  dsimp only
  split
  ·
   exact h
  ·
   exact h
  ·
   trivial
 | timer g op w es =>
  dsimp only
  split
  ·
   rename_i heq
   exact Zh h (Nat.le_of_eq (timer_w heq).symm)
  ·
   exact h
  ·
   trivial
  ·
   trivial
def MM (w:World):Move -> Prop
 | .goroutine m _=>w.drawn <= m.world.drawn
 | .machine s _=>SM w s
theorem MM.le {w w':World} {s:Move} (h:w.drawn <= w'.drawn) (hs:MM w' s):MM w s:=by
 cases s
 ·
  exact Zh h hs
 ·
  exact SM.le h hs
theorem pick_mono (p:Program) (rs:List Nat) (m:Machine):MM m.world (match (choose (.sched rs.length)).run p m.world with
   | .halt _ w=>.machine (.ended (.stuck "sched" "") w)
   | .ok k world =>
    if rs.length <= 1 then .goroutine { m with world } (rs.getD k 0) else
    match (choose (.extern "sched.slice" 65536)).run p world with
    | .halt _ w=>.machine (.ended (.stuck "sched.slice" "") w)
    | .ok n world=>.goroutine { m with world,rest:={ m.rest with slice:=if n = 0 then none else some (rs.getD k 0,n) } } (rs.getD k 0)):=by
 split
 ·
  trivial
 ·
  rename_i k w1 heq
  split
  ·
   exact of_run heq
  ·
   split
   ·
    trivial
   ·
    rename_i n w2 heq2
    exact Zh (of_run heq) (of_run heq2)
theorem end_mono (x:GStep) (w:World):MM w (match x with
     | .ended o w _=>.machine (.ended o w)
     | _=>.machine (.ended (.stuck "" "") default)):=by
 split <;> trivial
theorem askOn_mono (p:Program) (m:Machine):MM m.world (askOn p m):=by
 unfold askOn;dsimp only
 split
 ·
  trivial
 ·
  rename_i k w1 heq
  refine MM.le (w':=w1) (of_run heq) ?_
  split
  ·
   exact serve_mono p { m with world:=w1 } _
  ·
   split
   ·
    split
    ·
     exact lR _
    ·
     split
     ·
      exact lR _
     ·
      exact end_mono _ _
   ·
    split
    ·
     exact pick_mono p _ { m with world:=w1 }
    ·
     split
     ·
      trivial
     ·
      rename_i w2 heq2
      exact MM.le (w':=w2) (of_run heq2) (pick_mono p _ { m with world:=w2 })
     ·
      rename_i w2 heq2
      exact of_run heq2
     ·
      rename_i j w2 heq2
      exact MM.le (w':=w2) (of_run heq2) (pick_mono p _ (({ m with world:=w2 }:Machine).advanceTo _))
theorem ask_machine (p:Program) (m:Machine):MM m.world (ask p m):=by
 unfold ask
 split
 ·
  split
  ·
   trivial
  ·
   rename_i w1 heq
   split
   ·
    rename_i m2 heq2
    have h:=look_mono p m.gs m.rest w1;rw [heq2] at h;exact MM.le (Zh (of_run heq) h) (askOn_mono p m2)
   ·
    rename_i hne
    have h:=look_mono p m.gs m.rest w1;exact SM.le (of_run heq) h
  ·
   rename_i w1 hne heq
   exact MM.le (w':=w1) (of_run heq) (askOn_mono p { m with world:=w1 })
 ·
  exact askOn_mono p m
theorem move_mono (p:Program) (m:Machine):MM m.world (move p m):=by
 unfold move
 split
 ·
  split
  ·
   exact lR _
  ·
   trivial
 ·
  split
  ·
   split
   ·
    exact lR _
   ·
    exact ask_machine p _
  ·
   exact ask_machine p m
theorem step_mono (p:Program) (m:Machine):SM m.world (step p m):=by
 unfold step stepT;have h:=move_mono p m;generalize move p m = x at *;cases x with
 | goroutine m' i=>exact SM.le h (runT_machine p m' i)
 | machine s ops=>exact h
theorem runN_mono (p:Program):∀ (n:Nat) (m:Machine),SM m.world (runN p n m)
 | 0,m=>lR _
 | n + 1,m=>by
  have h:=step_mono p m
  unfold runN
  generalize step p m = x at *
  cases x with
  | next m'=>exact SM.le h (runN_mono p n m')
  | ended o w=>trivial
theorem calls_drawn {P:Program} {f:FuncId} {args:Array Value} {w:World} {v:Value} {R:World -> Prop} (h:Calls P f args w fun e w'=>e = .returned v/\R w') :
  Calls P f args w fun e w'=>e = .returned v/\R w'/\w.drawn <= w'.drawn:=by
 intro cs;obtain ⟨e,w',fr,⟨rfl,hR⟩,hc,hf,hl⟩:=h cs;refine ⟨_,w',fr,⟨rfl,hR,?_⟩,hc,hf,hl⟩;obtain ⟨n,hn⟩:Steps P _ _:=hc;have:=runN_mono P n (lone (Frame.enter P f args .normal) cs w);rw [hn] at this;exact this
theorem grown_of_below {w w':World} (h:Below w.heap.size w w') (hd:w.drawn <= w'.drawn):∃ q os',w' = Sort.grow (w.drewN q) os':=by
 refine ⟨w'.drawn - w.drawn,w'.heap.extract w.heap.size w'.heap.size,?_⟩;obtain ⟨heap',tape',drawn',os',output'⟩:=w';obtain ⟨heap,tape,drawn,os,output⟩:=w;have e1:os' = os:=h.os;have e2:tape' = tape:=h.tape;have e3:output' = output:=h.output;have hs:heap.size <= heap'.size:=h.size;have hb:∀ k,k < heap.size -> heap'[k]? = heap[k]?:=h.block;have hd':drawn <= drawn':=hd;subst e1 e2 e3;have e4:heap' = heap ++ heap'.extract heap.size heap'.size:=by
  apply Array.ext_getElem?;intro i;by_cases hi:i < heap.size
  ·
   rw [Array.getElem?_append_left hi];exact hb i hi
  ·
   rw [Array.getElem?_append_right (by omega),Array.getElem?_extract];by_cases hj:i < heap'.size
   ·
    rw [if_pos (by omega),show heap.size + (i - heap.size) = i by omega]
   ·
    rw [if_neg (by omega),Array.getElem?_eq_none (by omega)]
 have e5:drawn' = drawn + (drawn' - drawn):=by omega
 show (⟨heap',tape',drawn',os',output'⟩:World) = ⟨heap ++ heap'.extract heap.size heap'.size,tape',drawn + (drawn' - drawn),os',output'⟩;rw [<- e4,<- e5]
theorem calls_grown {P:Program} {f:FuncId} {args:Array Value} {w:World} {v:Value} (h:Calls P f args w fun e w'=>e = .returned v/\Below w.heap.size w w') :
  Calls P f args w fun e w'=>e = .returned v/\∃ q os',w' = Sort.grow (w.drewN q) os':=
 (calls_drawn h).mono fun e w' ⟨he,hb,hd⟩=>⟨he,grown_of_below hb hd⟩
end MonoD
namespace SortRow
open Go Go.RowKit Go.Sort Go.Shelf Go.Proofs B
section
variable {α : Type} {enc : α → List Value} {k : Nat}
theorem flatMap_get (hk:∀ x,(enc x).length = k):∀ (l:List α) (i j:Nat) (x:α),l[i]? = some x -> j < k -> (l.flatMap enc)[i * k + j]? = (enc x)[j]?
 | [],i,j,x,h,_=>by simp at h
 | y :: l,0,j,x,h,hj=>by
  simp at h
  subst h
  rw [List.flatMap_cons,Nat.zero_mul,Nat.zero_add,List.getElem?_append_left (by rw [hk];exact hj)]
 | y :: l,i + 1,j,x,h,hj=>by
  simp at h
  rw [List.flatMap_cons,List.getElem?_append_right (by rw [hk,Nat.add_mul];omega),hk,<- flatMap_get hk l i j x h hj]
  congr 1
  rw [Nat.add_mul]
  omega
theorem flatMap_len (hk:∀ x,(enc x).length = k):∀ l:List α,(l.flatMap enc).length = l.length * k
 | []=>by simp
 | x :: l=>by rw [List.flatMap_cons,Zl,hk,flatMap_len hk l,Zc,Nat.add_mul,Nat.one_mul,Nat.add_comm]
variable [Inhabited α]
theorem get_bang {β:Type} [Inhabited β] (a:Array β) (i:Nat) (h:i < a.size):a[i]? = some a[i]!:=by
 rw [Array.getElem?_eq_getElem h,getElem!_pos a i h]
theorem lget_bang {β:Type} [Inhabited β] (a:List β) (i:Nat) (h:i < a.length):a[i]? = some a[i]!:=by
 rw [Zg h,getElem!_pos a i h]
theorem flatK_list (hk:∀ x,(enc x).length = k) (hp:0 < k) (d:Array α):(flatK enc k d).toList = d.toList.flatMap enc:=by
 apply List.ext_getElem?;intro t;by_cases ht:t < d.size * k
 ·
  have h1:t / k < d.size:=Nat.div_lt_of_lt_mul (by rwa [Nat.mul_comm]);have h2:t % k < k:=Nat.mod_lt _ hp;have h3:=flatMap_get hk d.toList (t / k) (t % k) d[t / k]! (by rw [Array.getElem?_toList];exact get_bang d _ h1) h2;rw [Nat.mul_comm,Nat.div_add_mod] at h3;rw [h3,Array.getElem?_toList,get_bang _ t (by simpa using ht),get_flatK enc k d t ht,lget_bang _ _ (by rw [hk];exact h2)]
 ·
  rw [List.getElem?_eq_none (by simp;omega),List.getElem?_eq_none (by rw [flatMap_len hk];simp;omega)]
variable {e : TypeId} {w : World} {g cap base : Nat} {l : List α}
theorem holds_of (hk:∀ x,(enc x).length = k) (hp:0 < k) (ho:w.ownsRow base e k (.slice (some ⟨g,0,none⟩) l.length cap) l.length (l.flatMap enc)):HoldsK enc k w g 0 l.toArray:=by
 intro j hj;have hj':j < l.length * k:=by simpa using hj
 have hf:(l.flatMap enc)[j]? = some ((flatK enc k l.toArray)[j]!):=by
  have:=flatK_list hk hp l.toArray;rw [<- show (flatK enc k l.toArray).toList = l.flatMap enc from this,Array.getElem?_toList,get_bang _ j hj]
 have hc:=ho.cells rfl j _ hf;rw [add_plain] at hc;refine ⟨by rw [Nat.zero_add];exact hc,?_⟩;rcases ho.2 with ⟨h,_⟩ | ⟨g',cap',cur,h,hg,hh,rest⟩
 ·
  cases h
 ·
  cases h;unfold World.frozen?;rw [hh];simp
theorem row_sorted (hk:∀ x,(enc x).length = k) (hp:0 < k) (ho:w.ownsRow base e k (.slice (some ⟨g,0,none⟩) l.length cap) l.length (l.flatMap enc)) (d':Array α) (hs:d'.size = l.length) (m:Nat) (os:Array Obj) :
  (sortWorldK enc k w g 0 m d' os).ownsRow base e k (.slice (some ⟨g,0,none⟩) l.length cap) l.length (d'.toList.flatMap enc)/\w.grownBy (sortWorldK enc k w g 0 m d' os) (some g):=by
 rcases ho.2 with ⟨h,_⟩ | ⟨g',cap',cur,h,hg,hh,hnc,hcm,hcs,htake⟩
 ·
  cases h
 cases h;have hlt:g < w.heap.size:=(Array.getElem?_eq_some_iff.1 hh).1;have hFl:(flatK enc k d').toList = d'.toList.flatMap enc:=flatK_list hk hp d';have hFs:(flatK enc k d').size = l.length * k:=by simp [hs]
 have hblk:(putRowK enc k (Sort.ahead w m) g 0 d').heap[g]? = some (.cells (putCells id 0 (flatK enc k d') cur) e (0,0)):=by
  unfold putRowK putRow mapBlock;simp [Array.getElem?_modify,Sort.ahead,hh,onCells]
 have hsz:(putRowK enc k (Sort.ahead w m) g 0 d').heap.size = w.heap.size:=by
  unfold putRowK;rw [size_putRow]
  try rfl
 have hother:∀ j,j ≠ g -> (putRowK enc k (Sort.ahead w m) g 0 d').heap[j]? = w.heap[j]?:=by
  intro j hj;unfold putRowK putRow mapBlock;simp [Array.getElem?_modify,Sort.ahead];exact fun h=>absurd h.symm hj
 have hcl:l.length * k <= cur.size:=by
  have h1:=congrArg List.length htake;rw [Zi,flatMap_len hk] at h1;have h2:=ho.1;rw [flatMap_len hk] at h2;simp at h1;omega
 refine ⟨⟨by rw [flatMap_len hk];simp [hs],.inr ⟨g,cap,putCells id 0 (flatK enc k d') cur,rfl,hg,?_,hnc,hcm,by simpa [putCells] using hcs,?_⟩⟩,⟨rfl,rfl,rfl,?_,?_⟩⟩
 ·
  unfold sortWorldK;rw [heap_grow_old _ _ (by rw [hsz];exact hlt)];exact hblk
 ·
  rw [<- hFl];apply List.ext_getElem?;intro t;rw [List.getElem?_take];by_cases ht:t < l.length * k
  ·
   rw [if_pos (by simpa [hFs] using ht),Array.getElem?_toList,Array.getElem?_toList];unfold putCells;rw [Array.getElem?_mapIdx,get_bang cur t (by omega),Option.map_some,if_pos ⟨Nat.zero_le _,by rw [hFs];omega⟩,Nat.sub_zero,get_bang (flatK enc k d') t (by rw [hFs];exact ht)]
   try rfl
  ·
   rw [if_neg (by simpa [hFs] using ht),List.getElem?_eq_none (by rw [Array.length_toList,hFs];omega)]
 ·
  unfold sortWorldK;rw [size_grow,hsz];exact Nat.le_add_right _ _
 ·
  intro j hj hne;have:j ≠ g:=fun e=>hne (by rw [e])
  unfold sortWorldK;rw [heap_grow_old _ _ (by rw [hsz];exact hj)];exact hother j this
theorem cmp_lays {P:Program} {f:FuncId} {cf:α -> α -> Int} (h:∀ (x y:α) (w:World),Calls P f #[.agg (enc x).toArray,.agg (enc y).toArray] w fun e w'=>e = .returned (.int .i64 (cf x y))/\Below w.heap.size w w') (blk off size:Nat) (w:World):CmpLays P f #[] enc k cf blk off size w:=
 fun m os dk _ x y=>by
  have:=MonoD.calls_grown (h x y (sortWorldK enc k w blk off m dk os))
  simpa using this
end
end SortRow
namespace Bld
open Go.RowKit Go.Lib B Rd Env
def Bld (B b:Nat) (out:List UInt8) (w:World):Prop:=Lib.IsBuilderF 161 5 B b (Lib.byteCells out) w
theorem BldAt.moved {T e:TypeId} {B b:Nat} {p:Value} {bs:List Value} {w w':World} (h:Lib.BuilderAtF T e B b p bs w) (hm:∀ k,B <= k -> k < w.heap.size -> w'.heap[k]? = w.heap[k]?):Lib.BuilderAtF T e B b p bs w':=by
 obtain ⟨hB,v,hb,hown,hne⟩:=h;have lt:∀ {k:Nat} {o:Obj},w.heap[k]? = some o -> k < w.heap.size:=fun h=>(Array.getElem?_eq_some_iff.1 h).1
 refine ⟨hB,v,(hm b hB (lt hb)).trans hb,⟨hown.1,?_⟩,hne⟩;rcases hown.2 with hn | ⟨g,cap,cur,fz,hv,hbg,hg,rest⟩
 ·
  exact .inl hn
 ·
  exact .inr ⟨g,cap,cur,fz,hv,hbg,(hm g hbg (lt hg)).trans hg,rest⟩
theorem Bld.moved {B b:Nat} {out:List UInt8} {w w':World} (h:Bld B b out w) (hm:∀ k,B <= k -> k < w.heap.size -> w'.heap[k]? = w.heap[k]?):Bld B b out w':=
 h.elim (fun x=>.inl (BldAt.moved x hm)) (fun x=>.inr (BldAt.moved x hm))
theorem Bld.below {B b:Nat} {out:List UInt8} {w w':World} (h:Bld B b out w) (hb:Below w.heap.size w w'):Bld B b out w':=h.moved fun k _ hk=>hb.block k hk
theorem Bld.grown {B b rb:Nat} {out:List UInt8} {w w':World} (h:Bld B b out w) (hg:w.grownBy w' (some rb)) (hr:rb < B):Bld B b out w':=h.moved fun k h1 hk=>hg.block k hk (by simp;omega)
theorem Bld.new (w:World):Bld w.heap.size w.heap.size [] (w.alloc (.cells #[.pointer none,.slice none 0 0] 161)):=
 .inl ⟨lR _,.slice none 0 0,Kd.heap_new _ _,World.ownsRowF_nil _ _ _ _,by simp [Value.ownBlock]⟩
theorem runeCells_eq (r:Int):Lib.runeCells r = Lib.byteCells (encodeRune r):=by
 unfold Lib.runeCells Lib.byteCells encodeRune;rw [List.map_map];apply List.map_congr_left;intro x hx;have:=encodeRuneZ_byte r x hx;show Value.int .u8 x = .int .u8 ((x.toNat.toUInt8).toNat:Int);congr 1;rw [UInt8.toNat_ofNat'];omega
theorem byteCells_append (a b:List UInt8):Lib.byteCells a ++ Lib.byteCells b = Lib.byteCells (a ++ b):=by simp [Lib.byteCells]
theorem byteCells_len (a:List UInt8):(Lib.byteCells a).length = a.length:=by simp [Lib.byteCells]
theorem writeRune_calls (B b:Nat) (out:List UInt8) (r:Nat) (hr:r <= 2147483647) (w:World) (h:Bld B b out w) (hl:out.length + 4 <= 140737488355328) (hB:B <= w.heap.size) :
  Calls Tryz.prog 236 #[.pointer (some ⟨b,0,none⟩),.int .i32 (r:Int)] w fun e w'=>(∃ v,e = .returned v)/\Bld B b (out ++ encodeRune (r:Int)) w'/\Below B w w':=by
 refine (Any.Builder_WriteRune_k SB.lays168 Tryz.Builder_Extra_159 B b (Lib.byteCells out) (r:Int) (by omega) (by omega) w h (by rw [byteCells_len];exact hl) hB).mono ?_;rintro e w' ⟨h1,h2,h3,_⟩;refine ⟨⟨_,h1⟩,.inr ?_,h3⟩;rw [runeCells_eq,byteCells_append] at h2;exact h2
theorem strCells_eq (l:List UInt8):Lib.strCells (mkS l) = Lib.byteCells l:=by
 unfold Lib.strCells Lib.byteCells;rfl
theorem writeString_calls (B b:Nat) (out l:List UInt8) (w:World) (h:Bld B b out w) (hl:out.length + l.length <= 140737488355328) (hB:B <= w.heap.size) :
  Calls Tryz.prog 106 #[.pointer (some ⟨b,0,none⟩),.string (mkS l)] w fun e w'=>(∃ v,e = .returned v)/\Bld B b (out ++ l) w'/\Below B w w':=by
 refine (Any.Builder_WriteString_k SB.lays166 Tryz.Builder_Extra_159 B b (Lib.byteCells out) (mkS l) w h (by rw [byteCells_len,mkS_size];exact hl) hB).mono ?_;rintro e w' ⟨h1,h2,h3,_⟩;refine ⟨⟨_,h1⟩,.inr ?_,h3⟩;rw [strCells_eq,byteCells_append] at h2;exact h2
theorem string_calls (B b:Nat) (out:List UInt8) (w:World) (h:Bld B b out w) (hB:B <= w.heap.size) :
  Calls Tryz.prog 107 #[.pointer (some ⟨b,0,none⟩)] w fun e w'=>e = .returned (.string (mkS out))/\Bld B b out w'/\Below B w w':=
 (Any.Builder_String_any_k SB.lays169 Tryz.Builder_Extra_159 B b out w h hB).mono fun e w' ⟨h1,h2,h3,_⟩=>⟨h1,h2,h3⟩
end Bld
namespace LinesPure
open Go.Lib Utf TermPure
structure Triple where
 s:Term
 p:Term
 o:Term
deriving DecidableEq
def isTriple (t:Triple):Bool:=is t.s && (is t.p && (is t.o && ((decide (t.s.kind = 1) || decide (t.s.kind = 2)) && decide (t.p.kind = 1))))
def hexV (b:UInt8):Option Nat:=
 if 48 <= b.toNat/\b.toNat <= 57 then some (b.toNat - 48)
 else if 97 <= b.toNat/\b.toNat <= 102 then some (b.toNat - 87)
 else if 65 <= b.toNat/\b.toNat <= 70 then some (b.toNat - 55)
 else none
def hexGo:Nat -> Nat -> List UInt8 -> Option (Nat × List UInt8)
 | 0,v,l=>some (v,l)
 | _ + 1,_,[]=>none
 | n + 1,v,b :: l=>match hexV b with
  | none=>none
  | some d=>hexGo n (v * 16 + d) l
def escV (b:UInt8):Option UInt8:=
 if b = 116 then some 9 else if b = 98 then some 8 else if b = 110 then some 10 else if b = 114 then some 13 else if b = 102 then some 12
 else if b = 34 then some 34 else if b = 39 then some 39 else if b = 92 then some 92 else none
def rune (r:Option (Nat × List UInt8)):Option (List UInt8 × List UInt8):=
 match r with
 | none=>none
 | some (v,l)=>if Lib.validRune (v:Int) = true then some (encodeRune (v:Int),l) else none
def esc (lit:Bool):List UInt8 -> Option (List UInt8 × List UInt8)
 | []=>none
 | b :: l =>
  if b = 117 then rune (hexGo 4 0 l)
  else if b = 85 then rune (hexGo 8 0 l)
  else if lit then match escV b with
   | some c=>some ([c],l)
   | none=>none
  else none
def upTo (stop:UInt8) (lit nl:Bool):Nat -> List UInt8 -> Option (List UInt8 × List UInt8)
 | 0,_=>none
 | _ + 1,[]=>none
 | n + 1,b :: l =>
  if b = stop then some ([],l)
  else if b = 92 then match esc lit l with
   | none=>none
   | some (o,r)=>(upTo stop lit nl n r).map fun x=>(o ++ x.1,x.2)
  else if nl = true/\(b = 10 \/ b = 13) then none
  else (upTo stop lit nl n l).map fun x=>(b :: x.1,x.2)
theorem hexGo_rest:∀ (n v:Nat) (l:List UInt8) (x:Nat) (r:List UInt8),hexGo n v l = some (x,r) -> r = l.drop n/\n <= l.length
 | 0,v,l,x,r,h=>by
  rw [hexGo] at h
  cases h
  exact ⟨rfl,Nat.zero_le _⟩
 | n + 1,v,[],x,r,h=>by rw [hexGo] at h;cases h
 | n + 1,v,b :: l,x,r,h=>by
  rw [hexGo] at h
  cases hb:hexV b with
  | none=>rw [hb] at h;cases h
  | some d =>
   rw [hb] at h
   obtain ⟨h1,h2⟩:=hexGo_rest n _ l x r h
   exact ⟨h1,by simp;omega⟩
theorem hexGo_len (n v:Nat) (l:List UInt8) (x:Nat) (r:List UInt8) (h:hexGo n v l = some (x,r)):r.length <= l.length:=by
 obtain ⟨rfl,_⟩:=hexGo_rest n v l x r h;simp
theorem rune_len (n:Nat) (l o r:List UInt8) (h:rune (hexGo n 0 l) = some (o,r)):r.length <= l.length:=by
 cases hg:hexGo n 0 l with
 | none=>rw [hg,rune] at h;cases h
 | some p =>
  obtain ⟨v,q⟩:=p;rw [hg,rune] at h;have:=hexGo_len _ _ _ _ _ hg
  split at h
  ·
   cases h;exact this
  ·
   cases h
theorem esc_len (lit:Bool) (l o r:List UInt8) (h:esc lit l = some (o,r)):r.length < l.length:=by
 cases l with
 | nil=>cases h
 | cons b t =>
  have key:r.length <= t.length:=by
   rw [esc] at h
   split at h
   ·
    exact rune_len _ _ _ _ h
   ·
    split at h
    ·
     exact rune_len _ _ _ _ h
    ·
     split at h
     ·
      split at h
      ·
       cases h;exact lR _
      ·
       cases h
     ·
      cases h
  simp;omega
theorem encodeRune_len (r:Int):(encodeRune r).length <= 4:=by
 unfold encodeRune encodeRuneZ
 repeat' split
 all_goals simp
theorem esc_len2 (lit:Bool) (l o r:List UInt8) (h:esc lit l = some (o,r)):o.length + r.length <= l.length:=by
 have num:∀ (n:Nat) (t:List UInt8),4 <= n -> rune (hexGo n 0 t) = some (o,r) -> o.length + r.length <= t.length:=by
  intro n t hn h;cases hg:hexGo n 0 t with
  | none=>rw [hg,rune] at h;cases h
  | some p =>
   obtain ⟨v,q⟩:=p;rw [hg,rune] at h;obtain ⟨rfl,h2⟩:=hexGo_rest n 0 t v q hg
   split at h
   ·
    cases h;have:=encodeRune_len (v:Int);simp;omega
   ·
    cases h
 cases l with
 | nil=>cases h
 | cons b t =>
  rw [esc] at h
  split at h
  ·
   have:=num 4 t (by decide) h;simp;omega
  ·
   split at h
   ·
    have:=num 8 t (by decide) h;simp;omega
   ·
    split at h
    ·
     split at h
     ·
      cases h;simp;omega
     ·
      cases h
    ·
     cases h
theorem upTo_fuel (stop:UInt8) (lit nl:Bool):∀ (n m:Nat) (l:List UInt8),l.length < n -> l.length < m -> upTo stop lit nl n l = upTo stop lit nl m l
 | 0,m,l,h,_=>by omega
 | n + 1,0,l,_,h=>by omega
 | n + 1,m + 1,[],_,_=>rfl
 | n + 1,m + 1,b :: l,hn,hm=>by
  simp at hn hm
  rw [upTo,upTo]
  split
  ·
   rfl
  ·
   split
   ·
    cases he:esc lit l with
    | none=>rfl
    | some p =>
     obtain ⟨o,r⟩:=p
     have:=esc_len lit l o r he
     dsimp only
     rw [upTo_fuel stop lit nl n m r (by omega) (by omega)]
   ·
    split
    ·
     rfl
    ·
     rw [upTo_fuel stop lit nl n m l (by omega) (by omega)]
def up (stop:UInt8) (lit nl:Bool) (l:List UInt8):Option (List UInt8 × List UInt8):=upTo stop lit nl (l.length + 1) l
theorem up_nil (stop:UInt8) (lit nl:Bool):up stop lit nl [] = none:=rfl
theorem up_stop (stop:UInt8) (lit nl:Bool) (l:List UInt8):up stop lit nl (stop :: l) = some ([],l):=by rw [up,upTo,if_pos rfl]
theorem up_esc_none (stop:UInt8) (lit nl:Bool) (b:UInt8) (l:List UInt8) (h:b ≠ stop) (h1:b = 92) (he:esc lit l = none):up stop lit nl (b :: l) = none:=by
 rw [up,upTo,if_neg h,if_pos h1,he]
theorem up_esc (stop:UInt8) (lit nl:Bool) (b:UInt8) (l o r:List UInt8) (h:b ≠ stop) (h1:b = 92) (he:esc lit l = some (o,r)):up stop lit nl (b :: l) = (up stop lit nl r).map fun x=>(o ++ x.1,x.2):=by
 have:=esc_len lit l o r he;rw [up,upTo,if_neg h,if_pos h1,he];dsimp only;rw [up,upTo_fuel stop lit nl (b :: l).length (r.length + 1) r (by simp;omega) (by omega)]
theorem up_line (stop:UInt8) (lit nl:Bool) (b:UInt8) (l:List UInt8) (h:b ≠ stop) (h1:b ≠ 92) (h2:nl = true/\(b = 10 \/ b = 13)):up stop lit nl (b :: l) = none:=by
 rw [up,upTo,if_neg h,if_neg h1,if_pos h2]
theorem up_other (stop:UInt8) (lit nl:Bool) (b:UInt8) (l:List UInt8) (h:b ≠ stop) (h1:b ≠ 92) (h2:¬ (nl = true/\(b = 10 \/ b = 13))):up stop lit nl (b :: l) = (up stop lit nl l).map fun x=>(b :: x.1,x.2):=by
 rw [up,upTo,if_neg h,if_neg h1,if_neg h2]
 try rfl
def blank (b:UInt8):Bool:=b == 32 || b == 9
def blanks (l:List UInt8):List UInt8:=l.dropWhile blank
def inRun (dash:Bool) (b:UInt8):Bool:=alnum b.toNat || (dash && b == 45)
def run (dash:Bool) (l:List UInt8):List UInt8 × List UInt8:=(l.takeWhile (inRun dash),l.dropWhile (inRun dash))
def literal (ref:Bool) (l:List UInt8):Option (Term × List UInt8):=
 match up 34 true true l with
 | none=>none
 | some (t,r) =>
  if [64].isPrefixOf r = true then some (⟨4,t,toLowerA (run true (r.drop 1)).1⟩,(run true (r.drop 1)).2)
  else if [94,94].isPrefixOf r = true then
   if [60].isPrefixOf (r.drop 2) = true then (up 62 false ref (r.drop 3)).map fun x=>(⟨5,t,x.1⟩,x.2)
   else if ref = true then some (⟨3,t,[]⟩,r) else none
  else some (⟨3,t,[]⟩,r)
def rawTerm (ref:Bool) (l:List UInt8):Option (Term × List UInt8):=
 if [60].isPrefixOf l = true then (up 62 false ref (l.drop 1)).map fun x=>(⟨1,x.1,[]⟩,x.2)
 else if [95,58].isPrefixOf l = true then some (⟨2,(run false (l.drop 2)).1,[]⟩,(run false (l.drop 2)).2)
 else if [34].isPrefixOf l = true then literal ref (l.drop 1)
 else none
def term (ref:Bool) (l:List UInt8):Option (Term × List UInt8):=
 match rawTerm ref l with
 | none=>none
 | some (t,r)=>if is t = true then some (t,r) else none
def over (l:List UInt8):Bool:=decide (l = []) || [35].isPrefixOf l
def lineOf (ref:Bool) (s:List UInt8):Option (Option Triple):=
 if validD s = false then none
 else if over (blanks s) = true then some none
 else match term ref (blanks s) with
  | none=>none
  | some (a,r)=>match term ref (blanks r) with
   | none=>none
   | some (p,r)=>match term ref (blanks r) with
    | none=>none
    | some (o,r) =>
     if [46].isPrefixOf (blanks r) = true/\over (blanks ((blanks r).drop 1)) = true/\isTriple ⟨a,p,o⟩ = true then some (some ⟨a,p,o⟩) else none
end LinesPure
end Go.Proofs.YtnplommdgfgboaaGreatDoor
