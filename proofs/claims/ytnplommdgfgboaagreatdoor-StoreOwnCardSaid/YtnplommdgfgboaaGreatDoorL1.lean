/-
  Texts of the claim, one behind the other: Frame, Round, Tri, ParseP, Long, Long11, SPrint, RefSort, BoxPure, SCommon, RefEnc, RingC, TermAt, Alike.
-/
import Derived.Test.YtnplommdgfgboaaGreatDoorK9
import Derived.ProofKit
import Derived.Deep.Slices
import Derived.SizedLaws
import Derived.Deep.Strs
import Derived.OpenShut
import Derived.ChangeSame
import Derived.Lib.IndexMore
import Derived.Deep.RegionWith
set_option linter.unusedVariables false
set_option linter.unusedSimpArgs false
set_option linter.unusedVariables false
set_option linter.unusedSimpArgs false
namespace Go.Proofs.YtnplommdgfgboaaGreatDoor.B
open Go.RowKit Go.ChangeShapes Go.WideShapes Go.Deep
theorem weights_of {H:Type} {P:Program} {ts:List TypeId} {ds:List (DataW H)} (h:(DataW.weightsEach P ts ds).all (· ≤ reachBytes) = true) {j:Nat} {t:TypeId} {d:DataW H} (ht:ts[j]? = some t) (hd:ds[j]? = some d) :
  ∀ n ∈ DataW.weights P t d,n ≤ reachBytes:=fun n hn=>by
 have:=List.all_eq_true.1 h n (DataW.weights_mem_each ht hd n hn)
 simpa using this
namespace Opens
variable {P : Program} {t e : TypeId}
end Opens
end Go.Proofs.YtnplommdgfgboaaGreatDoor.B
set_option linter.unusedVariables false
set_option linter.unusedSimpArgs false
namespace Go.Proofs.YtnplommdgfgboaaGreatDoor.Round
open Go.Lib B Utf TermPure LinesPure
theorem blanks_all (g r:List UInt8) (h:∀ b ∈ g,LinesPure.blank b = true):LinesPure.blanks (g ++ r) = blanks r:=by
 unfold LinesPure.blanks
 rw [List.dropWhile_append_of_pos h]
theorem blanks_head (b:UInt8) (r:List UInt8) (h:LinesPure.blank b = false):LinesPure.blanks (b :: r) = b :: r:=by
 unfold LinesPure.blanks
 rw [List.dropWhile_cons,h]
 simp
theorem valid_blanks {g:List UInt8} (h:∀ b ∈ g,LinesPure.blank b = true):validD g = true:=valid_low fun b hb=>by
 have:=h b hb
 unfold LinesPure.blank at this
 simp only [Bool.or_eq_true,beq_iff_eq] at this
 rcases this with rfl | rfl <;> decide
theorem term_spells {x:List UInt8} {t:Term} (h:Spells x t) (ht:is t = true) (g g' r:List UInt8) (hg:∀ b ∈ g,LinesPure.blank b = true) (hg':∀ b ∈ g',LinesPure.blank b = true) (hne:g' ≠ []) :
  LinesPure.term false (LinesPure.blanks (g ++ (x ++ (g' ++ r)))) = some (t,g' ++ r):=by
 obtain ⟨b,x',rfl,hb,_⟩:=h.head
 obtain ⟨c,g2,rfl⟩:∃ c g2,g' = c :: g2:=by cases g' with
  | nil=>exact absurd rfl hne
  | cons c g2=>exact ⟨c,g2,rfl⟩
 rw [blanks_all g _ hg,List.cons_append,blanks_head b _ hb]
 have:=h.reads c (g2 ++ r) (hg' c (by simp))
 rw [List.cons_append] at this
 rw [LinesPure.term,List.cons_append,this]
 dsimp only
 rw [if_pos ht]
theorem lineOf_spells {t:Triple} (ht:isTriple t = true) {x y z:List UInt8} (hx:Spells x t.s) (hy:Spells y t.p) (hz:Spells z t.o) (g1 g2 g3 g4 tail:List UInt8)
  (h1:∀ b ∈ g1,LinesPure.blank b = true) (h2:∀ b ∈ g2,LinesPure.blank b = true) (h3:∀ b ∈ g3,LinesPure.blank b = true) (h4:∀ b ∈ g4,LinesPure.blank b = true) (n2:g2 ≠ []) (n3:g3 ≠ []) (n4:g4 ≠ [])
  (hv:validD tail = true) (ho:LinesPure.over (LinesPure.blanks tail) = true):lineOf false (g1 ++ (x ++ (g2 ++ (y ++ (g3 ++ (z ++ (g4 ++ 46 :: tail))))))) = some (some t):=by
 have hi:=ht
 unfold isTriple at hi
 simp only [Bool.and_eq_true] at hi
 have hval:validD (g1 ++ (x ++ (g2 ++ (y ++ (g3 ++ (z ++ (g4 ++ 46 :: tail))))))) = true:=
  valid_append (valid_blanks h1) (valid_append hx.valid (valid_append (valid_blanks h2) (valid_append hy.valid (valid_append (valid_blanks h3) (valid_append hz.valid (valid_append (valid_blanks h4) (valid_cons 46 (by decide) hv)))))))
 have e1:=term_spells hx hi.1 g1 g2 (y ++ (g3 ++ (z ++ (g4 ++ 46 :: tail)))) h1 h2 n2
 have e2:=term_spells hy hi.2.1 g2 g3 (z ++ (g4 ++ 46 :: tail)) h2 h3 n3
 have e3:=term_spells hz hi.2.2.1 g3 g4 (46 :: tail) h3 h4 n4
 have hnot:LinesPure.over (LinesPure.blanks (g1 ++ (x ++ (g2 ++ (y ++ (g3 ++ (z ++ (g4 ++ 46 :: tail)))))))) = false:=by
  obtain ⟨b,x',rfl,hb,hb2⟩:=hx.head
  rw [blanks_all g1 _ h1,List.cons_append,blanks_head b _ hb]
  unfold LinesPure.over
  have:((35:UInt8) == b) = false:=by rw [beq_eq_false_iff_ne];exact fun e=>hb2 e.symm
  simp [List.isPrefixOf,this]
 rw [lineOf,if_neg (by rw [hval];simp),if_neg (by rw [hnot];simp),e1]
 dsimp only
 rw [e2]
 dsimp only
 rw [e3]
 dsimp only
 rw [blanks_all g4 _ h4,blanks_head 46 _ (by decide),if_pos ⟨by simp [List.isPrefixOf],by simpa using ho,ht⟩]
def lineT (t:Triple):List UInt8:=shown t.s ++ (32 :: (shown t.p ++ (32 :: (shown t.o ++ [32,46]))))
theorem lineOf_shown {t:Triple} (ht:isTriple t = true):lineOf false (lineT t) = some (some t):=by
 have hi:=ht
 unfold isTriple at hi
 simp only [Bool.and_eq_true] at hi
 have hb:∀ b ∈ ([32]:List UInt8),LinesPure.blank b = true:=by decide
 exact lineOf_spells ht (shown_spells hi.1) (shown_spells hi.2.1) (shown_spells hi.2.2.1) [] [32] [32] [32] [] (by simp) hb hb hb (by simp) (by simp) (by simp) rfl rfl
end Go.Proofs.YtnplommdgfgboaaGreatDoor.Round
set_option linter.unusedVariables false
set_option linter.unusedSimpArgs false
namespace Go.Proofs.YtnplommdgfgboaaGreatDoor.Tri
open Go.RowKit Go.ChangeShapes Go.WideShapes Go.Deep B TermPure LinesPure Ref5
section
variable {P : Program} {t : TypeId}
theorem str_of {H:Type} {enc:TypeId × Value → H} {w:World} {fuel:Nat} {cs:List Value} {x:DataW H × List MemPlace} (ht:P.underlying t = some .string) (h:DataW.trod enc P w 0 (fun _=>true) true fuel t cs = some x)
  (hw:∀ n ∈ DataW.weights P t x.1,n ≤ reachBytes):∃ l:List UInt8,cs = [.string (mkS l)]∧l.length ≤ 140737488355328:=by
 obtain ⟨s,rfl,rfl,_⟩:=DataW.trod_string ht h
 refine ⟨s.data.toList,by rw [← Rd.eq_mkS],?_⟩
 have:=hw s.data.toList.length (by simp [DataW.weights])
 simp only [reachBytes] at this
 omega
theorem opens_term {f0 f1 f2:Field} (ht:P.underlying t = some (.struct #[f0,f1,f2])) (i0:P.underlying f0.type = some (.int .i64)) (i1:P.underlying f1.type = some .string) (i2:P.underlying f2.type = some .string)
  (o0:f0.offset = 0) (c0:P.cellsOf f0.type = 1) (o1:f1.offset = 1) (c1:P.cellsOf f1.type = 1) (o2:f2.offset = 2) (c2:P.cellsOf f2.type = 1) (ct:P.cellsOf t = 3):Opens P termK t:=fun enc w fuel cs x h hw=>by
 obtain ⟨y0,y1,y2,n,rfl,hl,k0,k1,k2⟩:=trod_struct3 ht h
 simp only [DataW.weights,ht] at hw
 rw [show (#[f0,f1,f2]:Array Field).toList.map (·.type) = [f0.type,f1.type,f2.type] from rfl] at hw
 simp only [DataW.weightsEach,List.append_nil] at hw
 rw [o0,c0,List.drop_zero] at k0
 rw [o1,c1] at k1
 rw [o2,c2] at k2
 obtain ⟨m,hm,_,hmw⟩:=DataW.trod_int i0 k0
 obtain ⟨x1,hx1,hl1⟩:=str_of i1 k1 (fun m hm=>hw m (List.mem_append_right _ (List.mem_append_left _ hm)))
 obtain ⟨x2,hx2,hl2⟩:=str_of i2 k2 (fun m hm=>hw m (List.mem_append_right _ (List.mem_append_right _ hm)))
 rw [ct] at hl
 match cs,hl with
 | [a,b,c],_ =>
  simp at hm hx1 hx2
  subst hm hx1 hx2
  exact ⟨⟨m,x1,x2⟩,rfl,Opens.i64_of hmw,hl1,hl2⟩
theorem opens_tri {f0 f1 f2:Field} (ht:P.underlying t = some (.struct #[f0,f1,f2])) (h0:Opens P termK f0.type) (h1:Opens P termK f1.type) (h2:Opens P termK f2.type)
  (o0:f0.offset = 0) (c0:P.cellsOf f0.type = 3) (o1:f1.offset = 3) (c1:P.cellsOf f1.type = 3) (o2:f2.offset = 6) (c2:P.cellsOf f2.type = 3) (ct:P.cellsOf t = 9):Opens P triK t:=fun enc w fuel cs x h hw=>by
 obtain ⟨y0,y1,y2,n,rfl,hl,k0,k1,k2⟩:=trod_struct3 ht h
 simp only [DataW.weights,ht] at hw
 rw [show (#[f0,f1,f2]:Array Field).toList.map (·.type) = [f0.type,f1.type,f2.type] from rfl] at hw
 simp only [DataW.weightsEach,List.append_nil] at hw
 rw [o0,c0,List.drop_zero] at k0
 rw [o1,c1] at k1
 rw [o2,c2] at k2
 obtain ⟨a,ha,fa⟩:=h0 enc w n _ _ k0 (fun m hm=>hw m (List.mem_append_left _ hm))
 obtain ⟨b,hb,fb⟩:=h1 enc w n _ _ k1 (fun m hm=>hw m (List.mem_append_right _ (List.mem_append_left _ hm)))
 obtain ⟨c,hc,fc⟩:=h2 enc w n _ _ k2 (fun m hm=>hw m (List.mem_append_right _ (List.mem_append_right _ hm)))
 rw [ct] at hl
 refine ⟨⟨a,b,c⟩,?_,fa,fb,fc⟩
 show cs = termL a ++ (termL b ++ termL c)
 rw [← ha,← hb,← hc,List.take_of_length_le (l:=cs.drop 6) (by rw [List.length_drop];omega)]
 have e1:cs.drop 3 = (cs.drop 3).take 3 ++ cs.drop 6:=by
  conv=>lhs;rw [← List.take_append_drop 3 (cs.drop 3),List.drop_drop]
 rw [← e1,List.take_append_drop]
end
theorem opens_termA:Opens Tryz.prog termK 24:=opens_term Tryz.underlying24 Tryz.underlying3 Tryz.underlying9 Tryz.underlying9 rfl (by kernel_rfl) rfl (by kernel_rfl) rfl (by kernel_rfl) (by kernel_rfl)
theorem opens_triA:Opens Tryz.prog triK 36:=opens_tri Tryz.underlying36 opens_termA opens_termA opens_termA rfl (by kernel_rfl) rfl (by kernel_rfl) rfl (by kernel_rfl) (by kernel_rfl)
theorem opens_triples:Opens Tryz.prog triK.sl 22:=Opens.slice Tryz.underlying22 (by kernel_rfl) (of_decide_eq_true (by kernel_rfl)) opens_triA
end Go.Proofs.YtnplommdgfgboaaGreatDoor.Tri
set_option linter.unusedVariables false
set_option linter.unusedSimpArgs false
namespace Go.Proofs.YtnplommdgfgboaaGreatDoor.ParseP
open Go.Lib B Utf TermPure LinesPure SortP Round
theorem putAll_mem:∀ (l:List Triple) (T:List Triple) (x:Triple),x ∈ l.foldl (fun T t=>if t ∈ T then T else T ++ [t]) T ↔ x ∈ T ∨ x ∈ l
 | [],T,x=>by simp
 | t :: l,T,x=>by
  rw [List.foldl_cons,putAll_mem l]
  by_cases h:t ∈ T
  ·
   rw [if_pos h]
   simp only [List.mem_cons]
   constructor
   ·
    rintro (h1 | h1)
    ·
     exact .inl h1
    ·
     exact .inr (.inr h1)
   ·
    rintro (h1 | rfl | h1)
    ·
     exact .inl h1
    ·
     exact .inl h
    ·
     exact .inr h1
  ·
   rw [if_neg h]
   simp only [List.mem_cons,List.mem_append,List.not_mem_nil,or_false]
   constructor
   ·
    rintro ((h1 | rfl) | h1)
    ·
     exact .inl h1
    ·
     exact .inr (.inl rfl)
    ·
     exact .inr (.inr h1)
   ·
    rintro (h1 | rfl | h1)
    ·
     exact .inl (.inl h1)
    ·
     exact .inl (.inr rfl)
    ·
     exact .inr h1
theorem Stands.line {x:List UInt8} {t:Triple} (e:List UInt8) (he:e = [10] ∨ e = [13,10]) (hx:∀ b ∈ x,b ≠ 10) (hc:∀ y,x ≠ y ++ [13]) (hl:lineOf false x = some (some t)):Stands (x ++ e) [t] 1:=fun r T n hn hT=>by
 obtain ⟨h1,h2⟩:lineS (x ++ e ++ r) = x∧restS (x ++ e ++ r) = r:=by
  rcases he with rfl | rfl
  ·
   rw [List.append_assoc];exact line_nl x r hx hc
  ·
   rw [List.append_assoc];exact line_crnl x r hx
 have hne:x ++ e ++ r ≠ []:=by rcases he with rfl | rfl <;> simp
 simp only [List.length_singleton] at hT
 by_cases ht:t ∈ T
 ·
  rw [pg_old _ T n t hne (by omega) (by rw [h1];exact hl) ht,h2]
  simp [putAll,ht]
 ·
  rw [pg_new _ T n t hne (by omega) (by rw [h1];exact hl) ht (by omega),h2]
  simp [putAll,ht]
theorem Stands.parse {x:List UInt8} {l:List Triple} {k:Nat} (h:Stands x l k) (hv:Valid l) (hk:k ≤ 200) (hl:l.length ≤ 100) (hx:x.length ≤ 20000):parse x = (sortT l,k,0):=by
 rw [ParseP.parse,if_neg (by omega)]
 have:=h [] [] 0 (by omega) (by simpa using hl)
 rw [List.append_nil,pg_nil,Nat.zero_add] at this
 rw [this]
 congr 1
 have hm:∀ y,y ∈ putAll [] l ↔ y ∈ l:=fun y=>by
  have:=putAll_mem l [] y
  unfold putAll
  rw [this]
  simp
 refine sortT_eq hv (sortT_rise (fun y hy=>hv y ((hm y).1 hy))) (fun y=>?_)
 rw [sortT_mem (fun y hy=>hv y ((hm y).1 hy)),hm]
theorem NoNl.of_iri {s:List UInt8} (h:isIRI s = true):NoNl s:=fun b hb=>by
 have hi:=iri_bytes h b hb
 constructor
 all_goals
  intro e
  subst e
  exact absurd (hi (by decide)) (by decide)
theorem NoNl.of_label {s:List UInt8} (h:isLabel s = true):NoNl s:=fun b hb=>by
 have hi:=label_bytes h b hb
 constructor
 all_goals
  intro e
  subst e
  exact absurd hi (by decide)
theorem NoNl.of_lang {s:List UInt8} (h:isLang s = true):NoNl s:=fun b hb=>by
 unfold isLang at h
 simp only [Bool.and_eq_true] at h
 have hi:=lang_bytes s false 0 h.1 b hb
 constructor
 all_goals
  intro e
  subst e
  exact absurd hi (by decide)
theorem NoNl.shown {t:Term} (h:is t = true):NoNl (shown t):=by
 rcases is_cases h with ⟨hk,h1,h2⟩ | ⟨hk,h1,h2⟩ | ⟨hk,h1,h2⟩ | ⟨hk,h1,h2⟩ | ⟨hk,h1,h2⟩
 all_goals
  unfold TermPure.shown
  rw [hk]
 ·
  exact NoNl.cons (by decide) (NoNl.append (NoNl.of_iri h1) (NoNl.cons (by decide) NoNl.nil))
 ·
  exact NoNl.cons (by decide) (NoNl.cons (by decide) (NoNl.of_label h1))
 ·
  exact NoNl.quoted _
 ·
  exact NoNl.append (NoNl.quoted _) (NoNl.cons (by decide) (NoNl.of_lang h2))
 ·
  exact NoNl.append (NoNl.quoted _) (NoNl.cons (by decide) (NoNl.cons (by decide) (NoNl.cons (by decide) (NoNl.append (NoNl.of_iri h2) (NoNl.cons (by decide) NoNl.nil)))))
theorem NoNl.line {x:List UInt8} (h:NoNl x):(∀ b ∈ x,b ≠ 10)∧∀ y,x ≠ y ++ [13]:=
 ⟨fun b hb=>(h b hb).1,fun y e=>(h 13 (by rw [e];simp)).2 rfl⟩
theorem NoNl.lineT {t:Triple} (h:isTriple t = true):NoNl (Round.lineT t):=by
 obtain ⟨h1,h2,h3⟩:=isT_parts h
 exact NoNl.append (NoNl.shown h1) (NoNl.cons (by decide) (NoNl.append (NoNl.shown h2) (NoNl.cons (by decide) (NoNl.append (NoNl.shown h3) (NoNl.cons (by decide) (NoNl.cons (by decide) NoNl.nil))))))
theorem Stands.shown {t:Triple} (h:isTriple t = true):Stands (Round.lineT t ++ [10]) [t] 1:=
 Stands.line [10] (.inl rfl) (NoNl.lineT h).line.1 (NoNl.lineT h).line.2 (lineOf_shown h)
end Go.Proofs.YtnplommdgfgboaaGreatDoor.ParseP
set_option linter.unusedVariables false
set_option linter.unusedSimpArgs false
namespace Go.Proofs.YtnplommdgfgboaaGreatDoor.Long
open Go.RowKit Go.Lib B Rd Utf TermPure LinesPure Tx Env Tri SortP Print Cmp
def wt (t:Triple):Nat:=3 + t.s.text.length + t.s.extra.length + t.p.text.length + t.p.extra.length + t.o.text.length + t.o.extra.length
def total:List Triple → Nat
 | []=>0
 | t :: l=>wt t + total l
theorem total_append:∀ a b:List Triple,total (a ++ b) = total a + total b
 | [],b=>by simp [total]
 | t :: a,b=>by rw [List.cons_append,total,total_append a b,total];omega
theorem total_take (l:List Triple) (k:Nat) (h:k < l.length):total (l.take (k + 1)) = total (l.take k) + wt l[k]:=by
 rw [List.take_succ_eq_append_getElem h,total_append]
 simp [total]
theorem total_le (l:List Triple) (k:Nat):total (l.take k) ≤ total l:=by
 have:=total_append (l.take k) (l.drop k)
 rw [List.take_append_drop] at this
 omega
theorem wt_le:∀ (l:List Triple) (t:Triple),t ∈ l → wt t ≤ total l
 | x :: l,t,h=>by
  rw [total]
  rcases List.mem_cons.1 h with rfl | h
  ·
   omega
  ·
   have:=wt_le l t h;omega
theorem small_of {l:List Triple} (h:total l ≤ 9000):∀ t ∈ l,SmallT t:=fun t ht=>by
 have:=wt_le l t ht
 unfold wt at this
 unfold SmallT
 omega
end Go.Proofs.YtnplommdgfgboaaGreatDoor.Long
set_option linter.unusedVariables false
set_option linter.unusedSimpArgs false
namespace Go.Proofs.YtnplommdgfgboaaGreatDoor.Long11
open Go.RowKit Go.Lib B Rd TermPure LinesPure Tri SortP Print Long Env
def looked (l:List Triple):Bool:=decide (total l ≤ 9000) && l.all isTriple
theorem looked_total {l:List Triple} (h:looked l = true):total l ≤ 9000:=by
 unfold looked at h
 simp only [Bool.and_eq_true,decide_eq_true_eq] at h
 exact h.1
theorem looked_valid {l:List Triple} (h:looked l = true):∀ t ∈ l,isTriple t = true:=by
 unfold looked at h
 simp only [Bool.and_eq_true,decide_eq_true_eq] at h
 exact List.all_eq_true.1 h.2
theorem looked_big {l:List Triple} {k:Nat} (h:9000 < total (l.take k)):looked l = false:=by
 have:=total_le l k
 unfold looked
 rw [decide_eq_false (by omega)]
 try rfl
theorem looked_none {l:List Triple} {t:Triple} (ht:t ∈ l) (h:isTriple t = false):looked l = false:=by
 unfold looked
 have:l.all isTriple = false:=by
  rw [← Bool.not_eq_true,List.all_eq_true]
  intro h2
  rw [h2 _ ht] at h
  cases h
 rw [this,Bool.and_false]
set_option maxHeartbeats 3200000 in
set_option maxRecDepth 100000 in
theorem long_calls (l:List Triple) (A:Option Addr) (c:Nat) (w:World) (he:Env w) (HL:triK.sl.M w (fun k=>k < w.heap.size) l [.slice A l.length c]) :
  Calls Tryz.prog 13 #[.slice A l.length c] w fun e w'=>e = .returned (.bool (!looked l))∧Below w.heap.size w w':=by
 have HF:=Lib.hid (row_fits HL)
 have HR:=Lib.hid (row_cells HL)
 have h47:=sl_len HL
 have HE:=Lib.hid he
 clear HL he
 go_enter Tryz.func13,Tryz.ntmps13
 go_wp2
 go_loopw [3,4] (fun vn vi wr=>∃ k n:Nat,k ≤ l.length∧vi = .int .i64 k∧vn = .int .i64 n∧n ≤ 2251799813685248∧Hid (n = total (l.take k)∧(l.take k).all isTriple = true)∧Hid (Below w.heap.size w wr)) (fun _ vi _=>l.length - (intOf vi).toNat)
 case atStart=>exact ⟨0,0,by omega,rfl,rfl,by omega,Lib.hid ⟨rfl,rfl⟩,Lib.hid (Below.refl _ _)⟩
 case round =>
  obtain ⟨k,n,hk,rfl,rfl,hn,HT,HW⟩:=hrel
  by_cases hlt:k < l.length
  ·
   have hd:decide (k < l.length) = true:=decide_eq_true hlt
   have ik:(k:Int) < (l.length:Int):=by omega
   by_cases hl:9000 < n
   ·
    have hd2:decide (n ≤ 9000) = false:=decide_eq_false (by omega)
    have hd3:decide (9000 < n) = true:=decide_eq_true hl
    have HV:Hid (looked l = false):=Lib.hid (looked_big (k:=k) (by rw [← HT.out.1];exact hl))
    go_wp2
    go_ret
    exact ⟨by rw [HV.out];rfl,HW.out⟩
   ·
    have hd2:decide (n ≤ 9000) = true:=decide_eq_true (by omega)
    obtain ⟨b,off,rfl,hb,hcells⟩:=HR.out k hlt
    obtain ⟨z0,z1,z2,z3,z4,z5,z6,z7,z8⟩:=(hcells k hlt).below HW.out
    have HT2:=Lib.hid (total_take l k hlt)
    have hf:=HF.out l[k] (List.getElem_mem hlt)
    have HAll:Hid ((l.take (k + 1)).all isTriple = ((l.take k).all isTriple && isTriple l[k])):=Lib.hid (by rw [List.take_succ_eq_append_getElem hlt,List.all_append];simp)
    have HNo:Hid (isTriple l[k] = false → looked l = false):=Lib.hid (fun h=>looked_none (List.getElem_mem hlt) h)
    clear hcells
    obtain ⟨t,ht⟩:∃ t,t = l[k]:=⟨_,rfl⟩
    rw [← ht] at z0 z1 z2 z3 z4 z5 z6 z7 z8 HT2 hf HAll HNo
    clear ht
    have HI:=Lib.hid (fun w he=>Ref5.is5w_calls t hf w he)
    obtain ⟨r,hr⟩:∃ r,r = isTriple t:=⟨_,rfl⟩
    rw [← hr] at HAll HNo HI
    clear hr
    obtain ⟨⟨sk,sx,se⟩,⟨pk,px,pe⟩,⟨ok,ox,oe⟩⟩:=t
    obtain ⟨⟨_,a1,a2⟩,⟨_,a3,a4⟩,⟨_,a5,a6⟩⟩:=hf
    have HWt:Hid (wt ⟨⟨sk,sx,se⟩,⟨pk,px,pe⟩,⟨ok,ox,oe⟩⟩ = 3 + sx.length + se.length + px.length + pe.length + ox.length + oe.length):=Lib.hid rfl
    unfold Ref5.tripleV at HI
    dsimp only at z0 z1 z2 z3 z4 z5 z6 z7 z8 a1 a2 a3 a4 a5 a6 HI
    have y1:=mkS_size sx
    have y2:=mkS_size se
    have y3:=mkS_size px
    have y4:=mkS_size pe
    have y5:=mkS_size ox
    have y6:=mkS_size oe
    have HWd:=Lib.hid (fun nq=>bel_drewN HW.out nq)
    have HEd:=Lib.hid (fun nq=>HE.out.below (HWd.out nq))
    go_wp2_with fail
    go_quiet (fail)
    cases r
    ·
     go_wp2_with fail
     refine (HI.out _ (HEd.out _)).mono ?_
     rintro e w2 ⟨rfl,hb2⟩
     have HW2:=Lib.hid (bel_step (HWd.out _) hb2)
     clear hb2
     go_wp2
     go_ret
     exact ⟨by rw [HNo.out (by first | rfl | trivial)];rfl,HW2.out⟩
    ·
     go_wp2_with fail
     refine (HI.out _ (HEd.out _)).mono ?_
     rintro e w2 ⟨rfl,hb2⟩
     have HW2:=Lib.hid (bel_step (HWd.out _) hb2)
     clear hb2
     go_wp2
     go_roundw
     case rel=>exact ⟨k + 1,n + (3 + sx.length + se.length + px.length + pe.length + ox.length + oe.length),by omega,by go_num,by go_num,by omega,Lib.hid ⟨by rw [HT2.out,HT.out.1,HWt.out],by rw [HAll.out,HT.out.2];rfl⟩,HW2⟩
     case measure=>simp [intOf];omega
  ·
   have hd:decide (k < l.length) = false:=decide_eq_false hlt
   obtain rfl:k = l.length:=by omega
   have HV:Hid ((!looked l) = decide (9000 < n)):=Lib.hid (by
    obtain ⟨h1,h2⟩:=HT.out
    rw [List.take_length] at h1 h2
    unfold looked
    rw [h2,← h1,Bool.and_true]
    by_cases h:n ≤ 9000
    ·
     rw [decide_eq_true h,decide_eq_false (by omega)];rfl
    ·
     rw [decide_eq_false h,decide_eq_true (by omega)];rfl)
   go_wp2
   go_ret
   exact ⟨by rw [HV.out];first | rfl | (congr 2;simp;omega) | simp,HW.out⟩
end Go.Proofs.YtnplommdgfgboaaGreatDoor.Long11
set_option linter.unusedVariables false
set_option linter.unusedSimpArgs false
namespace Go.Proofs.YtnplommdgfgboaaGreatDoor.SPrint
open Go.Lib TermPure LinesPure Tri SortP Print ParseP ParseOk
theorem lineN_eq (t:Triple):lineN t = Round.lineT t ++ [10]:=by
 unfold lineN Round.lineT
 simp
theorem stands_print (l:List Triple) (h:Valid l):Stands (l.flatMap lineN) l l.length:=
 Stands.flat l fun t ht=>by rw [lineN_eq];exact Stands.shown (h t ht)
theorem parse_print {l:List Triple} (h:Valid l) (hl:l.length ≤ 100) (hx:(l.flatMap lineN).length ≤ 20000):parse (l.flatMap lineN) = (sortT l,l.length,0):=
 (stands_print l h).parse h (by omega) hl hx
end Go.Proofs.YtnplommdgfgboaaGreatDoor.SPrint
set_option linter.unusedVariables false
set_option linter.unusedSimpArgs false
namespace Go.Proofs.YtnplommdgfgboaaGreatDoor.SortW
open Go.RowKit Go.Lib B Rd Utf TermPure LinesPure Tx Env Tri SortP Print Cmp Long
theorem putT_sub:∀ (l:List Triple) (t x:Triple),x ∈ putT l t → x = t ∨ x ∈ l
 | [],t,x,h=>by simpa [putT] using h
 | y :: l,t,x,h=>by
  rw [putT] at h
  split at h
  ·
   rcases List.mem_cons.1 h with h | h
   ·
    exact .inr (by simp [h])
   ·
    rcases putT_sub l t x h with h | h
    ·
     exact .inl h
    ·
     exact .inr (by simp [h])
  ·
   split at h
   ·
    exact .inr h
   ·
    rcases List.mem_cons.1 h with h | h
    ·
     exact .inl h
    ·
     exact .inr h
theorem putT_len:∀ (l:List Triple) (t:Triple),(putT l t).length ≤ l.length + 1
 | [],t=>by simp [putT]
 | y :: l,t=>by
  have:=putT_len l t
  rw [putT]
  split
  ·
   simp;omega
  ·
   split <;> simp
def accT (l:List Triple) (k:Nat):List Triple:=(l.take k).foldl putT []
theorem accT_step (l:List Triple) (k:Nat) (h:k < l.length):accT l (k + 1) = putT (accT l k) l[k]:=by
 unfold accT
 rw [List.take_succ_eq_append_getElem h,List.foldl_append]
 try rfl
theorem accT_sub (l:List Triple):∀ k,k ≤ l.length → ∀ x ∈ accT l k,x ∈ l
 | 0,_,x,h=>by simp [accT] at h
 | k + 1,hk,x,h=>by
  rw [accT_step l k (by omega)] at h
  rcases putT_sub _ _ _ h with h | h
  ·
   rw [h];exact List.getElem_mem _
  ·
   exact accT_sub l k (by omega) x h
theorem accT_len (l:List Triple):∀ k,k ≤ l.length → (accT l k).length ≤ k
 | 0,_=>by simp [accT]
 | k + 1,hk=>by
  rw [accT_step l k (by omega)]
  have:=putT_len (accT l k) (l[k]'(by omega))
  have:=accT_len l k (by omega)
  omega
theorem accT_all (l:List Triple):accT l l.length = sortT l:=by
 unfold accT sortT
 rw [List.take_length]
set_option maxHeartbeats 6400000 in
set_option maxRecDepth 100000 in
theorem refsort_calls (l:List Triple) (A:Option Addr) (c:Nat) (w:World) (HL:triK.sl.M w (fun k=>k < w.heap.size) l [.slice A l.length c]) (hs:∀ x ∈ l,SmallT x) (hb:l.length ≤ 1000000) :
  Calls Tryz.prog 21 #[.slice A l.length c] w fun e w'=>∃ A' c',e = .returned (.slice A' (sortT l).length c')∧triK.sl.M w' (fun k=>k < w'.heap.size) (sortT l) [.slice A' (sortT l).length c']∧Below w.heap.size w w':=by
 have HR:=Lib.hid (row_cells HL)
 have HF:=Lib.hid (row_fits HL)
 have HS:=Lib.hid hs
 have h47:=sl_len HL
 clear HL hs
 go_enter Tryz.func21,Tryz.ntmps21
 go_wp2
 go_loopw [3,4] (fun v3 vi wr=>∃ (k:Nat) (acc:List Triple) (A3:Option Addr) (c3:Nat),vi = .int .i64 k∧v3 = .slice A3 acc.length c3∧k ≤ l.length∧Hid (acc = accT l k∧triK.sl.M wr TT acc [.slice A3 acc.length c3]∧Below w.heap.size w wr)) (fun _ vi _=>l.length - (intOf vi).toNat)
 case atStart=>exact ⟨0,[],none,0,rfl,rfl,by omega,Lib.hid ⟨rfl,⟨none,0,rfl,Nat.le_refl _,⟨Nat.zero_le _,Nat.zero_le _⟩,fun _=>rfl,Kd.row_nil _ _ _ _⟩,Below.refl _ _⟩⟩
 case round =>
  obtain ⟨k,acc,A3,c3,rfl,rfl,hkL,HI⟩:=hrel
  by_cases hlt:k < l.length
  ·
   have hd:decide (k < l.length) = true:=decide_eq_true hlt
   have ik:(k:Int) < (l.length:Int):=by omega
   obtain ⟨b,off,rfl,hbs,hcells⟩:=HR.out k hlt
   have hcx:=(hcells k hlt).below HI.out.2.2
   obtain ⟨x,hx⟩:∃ x,x = l[k]:=⟨_,rfl⟩
   rw [← hx] at hcx
   have HC:=Lib.hid (put_calls acc x A3 c3 wr (triK.sl.mono (fun k _ hk=>hk) HI.out.2.1) (fun y hy=>HS.out y (accT_sub l k hkL y (by rw [← HI.out.1];exact hy))) (by rw [hx];exact HS.out _ (List.getElem_mem hlt)) (by rw [hx];exact HF.out _ (List.getElem_mem hlt)) (by rw [HI.out.1];exact Nat.le_trans (accT_len l k hkL) (by omega)))
   have HAcc:Hid (putT acc x = accT l (k + 1)):=Lib.hid (by rw [accT_step l k hlt,HI.out.1,hx])
   have HB:=Lib.hid HI.out.2.2
   clear hcells hx HI
   obtain ⟨⟨sk,sx,se⟩,⟨pk,px,pe⟩,⟨ok,ox,oe⟩⟩:=x
   obtain ⟨x0,x1,x2,x3,x4,x5,x6,x7,x8⟩:=hcx
   dsimp only at x0 x1 x2 x3 x4 x5 x6 x7 x8
   unfold Ref5.tripleV at HC
   dsimp only at HC
   go_wp2_with fail
   refine HC.out.mono ?_
   rintro e w2 ⟨A4,c4,rfl,hM,hb2⟩
   have HN:=Lib.hid (show _∧_∧_ from ⟨HAcc.out,hM,bel_step HB.out hb2⟩)
   clear HC hM hb2 HAcc HB
   go_wp2
   go_roundw
   case rel=>exact ⟨k + 1,_,_,_,by go_num,rfl,by omega,HN⟩
   case measure=>simp [intOf];omega
  ·
   have hd:decide (k < l.length) = false:=decide_eq_false hlt
   obtain rfl:k = l.length:=by omega
   have HN:Hid (acc = sortT l):=Lib.hid (by rw [HI.out.1,accT_all])
   have HM:Hid (triK.sl.M wr (fun k=>k < wr.heap.size) acc [.slice A3 acc.length c3]∧Below w.heap.size w wr):=Lib.hid ⟨triK.sl.mono (fun k _ hk=>hk) HI.out.2.1,HI.out.2.2⟩
   clear HI
   go_wp2
   go_ret
   rw [← HN.out]
   exact ⟨_,_,rfl,HM.out.1,HM.out.2⟩
end Go.Proofs.YtnplommdgfgboaaGreatDoor.SortW
set_option linter.unusedVariables false
set_option linter.unusedSimpArgs false
namespace Go.Proofs.YtnplommdgfgboaaGreatDoor.BoxPure
open CrcPure
theorem file_length (l:List Sec):(file l).length = 9 + 7 * l.length + total l:=by
 simp only [file,List.length_append,header_length,three_length,bodies_length];omega
end Go.Proofs.YtnplommdgfgboaaGreatDoor.BoxPure
set_option linter.unusedVariables false
set_option linter.unusedSimpArgs false
namespace Go.Proofs.YtnplommdgfgboaaGreatDoor.SCommon
open Go.RowKit Go.Lib B Rd TermPure LinesPure Tri SortP OrdG Print Cmp Long Long11 StoreW StoreM Env ParseP Parse ParseOk SPrint StoreP Encode SortW
theorem load_print (l:List Triple) (hv:Valid l) (hl:l.length ≤ 100) (x:List UInt8) (hx:x = l.flatMap lineN) (hs:x.length ≤ 20000) (w:World) (he:Env w) :
  Calls Tryz.prog 15 #[.string (mkS x)] w fun e w'=>(∃ g,e = .returned (.tuple #[.pointer (some ⟨g,0,none⟩),.int .i64 (l.length:Nat),.int .i64 0])∧StoreAt w' (fun _=>True) g (sortT l))∧Below w.heap.size w w':=by
 have hp:parse x = (sortT l,l.length,0):=by rw [hx];exact parse_print hv hl (by rw [← hx];exact hs)
 refine (load_good x (by omega) w he (by rw [hp])).mono ?_
 rintro e w' ⟨⟨g,he,hS⟩,hb⟩
 rw [hp] at he hS
 exact ⟨⟨g,he,hS.mono (fun _ _ _=>trivial)⟩,hb⟩
end Go.Proofs.YtnplommdgfgboaaGreatDoor.SCommon
namespace Go.Proofs.YtnplommdgfgboaaGreatDoor.RefEnc
open Go.RowKit Go.Lib B Rd TermPure LinesPure Tri SortP OrdG TermW Cmp StoreW FrontP FrontW PackW StoreP IdsW RefOf Encode
theorem three_any (W:World) (t:TypeId) (a b c:Nat) (ha:a ≤ 1000000) (hb:b ≤ 1000000) (hc:c ≤ 1000000):intK.sl.M (W.alloc (.cells #[.int .i64 (a:Int),.int .i64 (b:Int),.int .i64 (c:Int)] t)) (fun _=>True) [(a:Int),(b:Int),(c:Int)] [.slice (some ⟨W.heap.size,0,none⟩) 3 3]:=by
 refine ⟨some ⟨W.heap.size,0,none⟩,3,rfl,Nat.le_refl _,⟨by simp,by unfold maxLen;omega⟩,fun h=>(by cases h),fun i x hx=>?_⟩
 match i with
 | 0 =>
  simp at hx
  subst hx
  refine ⟨_,[.int .i64 (a:Int)],rfl,trivial,⟨rfl,by omega⟩,fun j u hu=>?_⟩
  rw [add_plain,World.cell?,Kd.heap_new]
  match j with
  | 0=>simp at hu;subst hu;rfl
  | j + 1=>simp at hu
 | 1 =>
  simp at hx
  subst hx
  refine ⟨_,[.int .i64 (b:Int)],rfl,trivial,⟨rfl,by omega⟩,fun j u hu=>?_⟩
  rw [add_plain,World.cell?,Kd.heap_new]
  match j with
  | 0=>simp at hu;subst hu;rfl
  | j + 1=>simp at hu
 | 2 =>
  simp at hx
  subst hx
  refine ⟨_,[.int .i64 (c:Int)],rfl,trivial,⟨rfl,by omega⟩,fun j u hu=>?_⟩
  rw [add_plain,World.cell?,Kd.heap_new]
  match j with
  | 0=>simp at hu;subst hu;rfl
  | j + 1=>simp at hu
 | i + 3=>simp at hx
theorem refpack_enc {T:List Triple} (h:Valid T) (hl:T.length ≤ 100) (v:Value) (w:World) (m:BoxPack.secK.sl.M w (fun _=>True) (secs2 T) [v]) :
  Calls Tryz.prog 40 #[v] w fun e w'=>(∃ u,e = .returned (.tuple #[u,.int .i64 0])∧byteK.own 5 w' w.heap.size (fun _=>True) u (encT T))∧Below w.heap.size w w':=by
 have h1:=front_len h hl
 have h2:=body_len h hl
 refine (BoxRef.refpack_calls (secs2 T) (by unfold secs2;simp only [BoxPure.total,List.length_cons,List.length_nil];omega) (by unfold secs2;simp) v w m).mono ?_
 rintro e w' ⟨hb,⟨_,u,he,ho⟩ | ⟨hn,_⟩⟩
 ·
  exact ⟨⟨u,he,ho⟩,hb⟩
 ·
  exact absurd (enc_may h hl) hn
set_option maxHeartbeats 12800000 in
set_option maxRecDepth 100000 in
theorem refenc_calls (T:List Triple) (hv:Valid T) (hl:T.length ≤ 100) (g:Nat) (w:World) (ok:Nat → Prop) (h:RefAt w ok g T) :
  Calls Tryz.prog 64 #[.pointer (some ⟨g,0,none⟩)] w fun e w'=>(∃ v,e = .returned v∧byteK.own 5 w' w.heap.size (fun _=>True) v (encT T))∧Below w.heap.size w w':=by
 obtain ⟨A1,c1,hg1,_⟩:=h.terms
 obtain ⟨A2,c2,hg2,hM2⟩:=h.shows
 obtain ⟨A3,c3,hg3,hM3⟩:=h.ids
 have hE:=E_len hv hl
 have HPk:=Lib.hid (refpack_enc hv hl)
 have HBits:=Lib.hid (nums_bits hv hl)
 have HWide:Hid (wide T = Lib.bitLen (termsT T).length∧wide T ≤ 9):=Lib.hid ⟨rfl,wide_le hv hl⟩
 have HShort:=Lib.hid (texts_short hv)
 have HTl:Hid ((texts T).length = (termsT T).length):=Lib.hid (by unfold texts;simp)
 have HIb:Hid (∀ x ∈ idsT T,x.a ≤ 1000∧x.b ≤ 1000∧x.c ≤ 1000):=Lib.hid (fun x hx=>by
  obtain ⟨q1,q2,q3⟩:=Made.good_ids hv hl x hx
  omega)
 have HBl:=Lib.hid (body_len hv hl)
 have hIl:=ids_len T
 have HSecs:Hid (secs2 T = [(1,frontB (texts T)),(2,headN (idsT T).length ++ packB (nums (idsT T)) (wide T))]):=Lib.hid (by rw [hIl];rfl)
 rw [← hIl] at hg3 hM3 hl HBl
 clear hIl
 obtain ⟨I,hI⟩:∃ I,I = idsT T:=⟨_,rfl⟩
 obtain ⟨E,hEe⟩:∃ E,E = termsT T:=⟨_,rfl⟩
 obtain ⟨L,hL⟩:∃ L,L = texts T:=⟨_,rfl⟩
 rw [← hI] at HBits HIb HBl HSecs hg3 hM3 hl
 rw [← hEe] at hE HWide HTl hg1 hg2 hM2
 rw [← hL] at HShort HTl HSecs hM2
 have HRow:=Lib.hid (fun hp=>ids_row hM3 hp)
 rw [← HTl.out] at hM2
 have HG1:=Lib.hid (fun W (hb:Below w.heap.size w W)=>(hb.cell (p:=⟨g,1,none⟩) (cell_lt hg1)).trans hg1)
 have HG2:=Lib.hid (fun W (hb:Below w.heap.size w W)=>(hb.cell (p:=⟨g,2,none⟩) (cell_lt hg2)).trans hg2)
 have HG3:=Lib.hid (fun W (hb:Below w.heap.size w W)=>(hb.cell (p:=⟨g,3,none⟩) (cell_lt hg3)).trans hg3)
 have HMS:=Lib.hid (fun W (hb:Below w.heap.size w W)=>Kd.M_bound (Kd.M_below (Kd.M_bound hM2) hb))
 have HO0:Hid (intK.own 3 w w.heap.size Clones.TT (.slice none 0 0) (natZ (nums (I.take 0)))):=Lib.hid (Kd.own_nil _ _ _ _ _)
 clear hg1 hg2 hg3 hM2 hM3 hI hEe hL h hv
 have hl100:I.length ≤ 100:=hl
 have k3:=HG3.out w (Below.refl _ _)
 go_enter Tryz.func64,Tryz.ntmps64
 go_wp2
 go_loopw [3,4] (fun v3 vk wr=>∃ k:Nat,vk = .int .i64 k∧k ≤ I.length∧Hid (intK.own 3 wr w.heap.size Clones.TT v3 (natZ (nums (I.take k)))∧Below w.heap.size w wr)) (fun _ vk _=>I.length - (intOf vk).toNat)
 case atStart=>exact ⟨0,rfl,by omega,Lib.hid ⟨HO0.out,Below.refl _ _⟩⟩
 case round =>
  obtain ⟨k,rfl,hk,HJ⟩:=hrel
  clear HO0 k3
  obtain ⟨Y,hY⟩:∃ Y,Y = natZ (nums (I.take k)):=⟨_,rfl⟩
  rw [← hY] at HJ
  have HYe:=Lib.hid hY
  clear hY
  obtain ⟨A6,c6,rfl,_,_⟩:=Kd.own_slice HJ.out.1
  have k3:=HG3.out wr HJ.out.2
  by_cases hlt2:k < I.length
  ·
   have hd2:decide (k < I.length) = true:=decide_eq_true hlt2
   have ik2:(k:Int) < (I.length:Int):=by omega
   obtain ⟨b,off,rfl,hbs,hcells⟩:=HRow.out (by omega)
   have hcx:=hcells k hlt2
   have hsn:=nums_snoc I k hlt2
   obtain ⟨x,hx⟩:∃ x,x = I[k]:=⟨_,rfl⟩
   rw [← hx] at hcx hsn
   rw [← HYe.out] at hsn
   have hxb:=HIb.out x (by rw [hx];exact List.getElem_mem hlt2)
   have HSn:=Lib.hid hsn
   have hylen:Y.length ≤ 300:=by rw [HYe.out,natZ_len,nums_len,List.length_take];omega
   have HK:Hid (∀ w',Below w.heap.size w w' → w'.cell? ⟨g,3,none⟩ = some (Value.slice (some ⟨b,off,none⟩) I.length c3)∧w'.cell? ⟨b,off + k * 3,none⟩ = some (Value.int .i64 (x.a:Nat))∧w'.cell? ⟨b,off + k * 3 + 1,none⟩ = some (Value.int .i64 (x.b:Nat))∧w'.cell? ⟨b,off + k * 3 + 2,none⟩ = some (Value.int .i64 (x.c:Nat))):=Lib.hid (fun w' hbb=>by
    have hc:=hcx.below hbb
    have x0:=hc 0 (by decide)
    have x1:=hc 1 (by decide)
    have x2:=hc 2 (by decide)
    simp only [Nat.add_zero,at3] at x0 x1 x2
    exact ⟨HG3.out w' hbb,x0,x1,x2⟩)
   clear hcells hcx hsn hx
   obtain ⟨xa,xb,xc⟩:=x
   dsimp only at HSn hxb HK
   have HThree:=Lib.hid (fun W t=>three_any W t xa xb xc (by omega) (by omega) (by omega))
   have HOw:=Lib.hid HJ.out.1
   have HBw:=Lib.hid HJ.out.2
   have hzw:w.heap.size ≤ wr.heap.size:=HJ.out.2.size
   clear HJ
   go_upto_region 5 with fail
   clear k3
   refine HeldZ.region (fun w'=>w'.cell? ⟨g,3,none⟩ = some (Value.slice (some ⟨b,off,none⟩) I.length c3)∧w'.cell? ⟨b,off + k * 3,none⟩ = some (Value.int .i64 (xa:Nat))∧w'.cell? ⟨b,off + k * 3 + 1,none⟩ = some (Value.int .i64 (xb:Nat))∧w'.cell? ⟨b,off + k * 3 + 2,none⟩ = some (Value.int .i64 (xc:Nat))) 27 28 #[false,false,false,false,false,false,false,false,false,false,false,false,false,false,false,false,false,false,false,false,false,false,false,false,false,false,false,false] (by kernel_rfl) rfl rfl ?_
   intro hinv
   have hS:=HK.out wr.drew (bel_drew HBw.out)
   refine HeldZ.take (v:=?vu1_0) 0 hinv rfl (by kernel_rfl) (by kernel_rfl) (by decide) (by decide) (by kernel_rfl) (by kernel_rfl) (by kernel_rfl) (fun _ _ _ h=>h) hS (Or.inl ⟨by rfl,?hyu1_0⟩) ?_
   case hyu1_0=>(intro w hSw;(try dsimp only at hSw);go_simp;try with_reducible rfl)
   clear hinv
   intro hinv
   try simp only [Act.put,List.setIfInBounds_toArray,List.set_cons_zero,List.set_cons_succ] at hinv ⊢
   refine HeldZ.take (v:=?vu2_1) 1 hinv rfl (by kernel_rfl) (by kernel_rfl) (by decide) (by decide) (by kernel_rfl) (by kernel_rfl) (by kernel_rfl) (fun _ _ _ h=>h) hS (Or.inl ⟨by rfl,?hyu2_1⟩) ?_
   case hyu2_1=>(intro w hSw;(try dsimp only at hSw);go_simp;try with_reducible rfl)
   clear hinv
   intro hinv
   try simp only [Act.put,List.setIfInBounds_toArray,List.set_cons_zero,List.set_cons_succ] at hinv ⊢
   refine HeldZ.take (v:=?vu3_2) 2 hinv rfl (by kernel_rfl) (by kernel_rfl) (by decide) (by decide) (by kernel_rfl) (by kernel_rfl) (by kernel_rfl) (fun _ _ _ h=>h) hS (Or.inl ⟨by rfl,?hyu3_2⟩) ?_
   case hyu3_2=>(intro w hSw;(try dsimp only at hSw);go_simp;try with_reducible rfl)
   clear hinv
   intro hinv
   try simp only [Act.put,List.setIfInBounds_toArray,List.set_cons_zero,List.set_cons_succ] at hinv ⊢
   refine HeldZ.take (v:=?vu4_3) 3 hinv rfl (by kernel_rfl) (by kernel_rfl) (by decide) (by decide) (by kernel_rfl) (by kernel_rfl) (by kernel_rfl) (fun _ _ _ h=>h) hS (Or.inl ⟨by rfl,?hyu4_3⟩) ?_
   case hyu4_3=>(intro w hSw;(try dsimp only at hSw);go_simp;try with_reducible rfl)
   clear hinv
   intro hinv
   try simp only [Act.put,List.setIfInBounds_toArray,List.set_cons_zero,List.set_cons_succ] at hinv ⊢
   refine HeldZ.take (v:=?vu5_4) 4 hinv rfl (by kernel_rfl) (by kernel_rfl) (by decide) (by decide) (by kernel_rfl) (by kernel_rfl) (by kernel_rfl) (fun _ _ _ h=>h) hS (Or.inl ⟨by rfl,?hyu5_4⟩) ?_
   case hyu5_4=>(intro w hSw;(try dsimp only at hSw);go_simp;try with_reducible rfl)
   clear hinv
   intro hinv
   try simp only [Act.put,List.setIfInBounds_toArray,List.set_cons_zero,List.set_cons_succ] at hinv ⊢
   refine HeldZ.take (v:=?vu6_5) 5 hinv rfl (by kernel_rfl) (by kernel_rfl) (by decide) (by decide) (by kernel_rfl) (by kernel_rfl) (by kernel_rfl) (fun _ _ _ h=>h) hS (Or.inl ⟨by rfl,?hyu6_5⟩) ?_
   case hyu6_5=>(intro w hSw;(try dsimp only at hSw);go_simp;try with_reducible rfl)
   clear hinv
   intro hinv
   try simp only [Act.put,List.setIfInBounds_toArray,List.set_cons_zero,List.set_cons_succ] at hinv ⊢
   refine HeldZ.take (v:=?vu7_6) 6 hinv rfl (by kernel_rfl) (by kernel_rfl) (by decide) (by decide) (by kernel_rfl) (by kernel_rfl) (by kernel_rfl) (fun _ _ _ h=>h) hS (Or.inl ⟨by rfl,?hyu7_6⟩) ?_
   case hyu7_6=>(intro w hSw;(try dsimp only at hSw);go_simp;try with_reducible rfl)
   clear hinv
   intro hinv
   try simp only [Act.put,List.setIfInBounds_toArray,List.set_cons_zero,List.set_cons_succ] at hinv ⊢
   refine HeldZ.take (v:=?vu8_7) 7 hinv rfl (by kernel_rfl) (by kernel_rfl) (by decide) (by decide) (by kernel_rfl) (by kernel_rfl) (by kernel_rfl) (fun _ _ _ h=>h) hS (Or.inl ⟨by rfl,?hyu8_7⟩) ?_
   case hyu8_7=>(intro w hSw;(try dsimp only at hSw);go_simp;try with_reducible rfl)
   clear hinv
   intro hinv
   try simp only [Act.put,List.setIfInBounds_toArray,List.set_cons_zero,List.set_cons_succ] at hinv ⊢
   refine HeldZ.take (v:=?vu9_8) 8 hinv rfl (by kernel_rfl) (by kernel_rfl) (by decide) (by decide) (by kernel_rfl) (by kernel_rfl) (by kernel_rfl) (fun _ _ _ h=>h) hS (Or.inl ⟨by rfl,?hyu9_8⟩) ?_
   case hyu9_8=>(intro w hSw;(try dsimp only at hSw);go_simp;try with_reducible rfl)
   clear hinv
   intro hinv
   try simp only [Act.put,List.setIfInBounds_toArray,List.set_cons_zero,List.set_cons_succ] at hinv ⊢
   refine HeldZ.take (v:=?vu10_9) 9 hinv rfl (by kernel_rfl) (by kernel_rfl) (by decide) (by decide) (by kernel_rfl) (by kernel_rfl) (by kernel_rfl) (fun _ _ _ h=>h) hS (Or.inl ⟨by rfl,?hyu10_9⟩) ?_
   case hyu10_9=>(intro w hSw;(try dsimp only at hSw);go_simp;try with_reducible rfl)
   clear hinv
   intro hinv
   try simp only [Act.put,List.setIfInBounds_toArray,List.set_cons_zero,List.set_cons_succ] at hinv ⊢
   refine HeldZ.take (v:=?vu11_10) 10 hinv rfl (by kernel_rfl) (by kernel_rfl) (by decide) (by decide) (by kernel_rfl) (by kernel_rfl) (by kernel_rfl) (fun _ _ _ h=>h) hS (Or.inl ⟨by rfl,?hyu11_10⟩) ?_
   case hyu11_10=>(intro w hSw;(try dsimp only at hSw);go_simp;try with_reducible rfl)
   clear hinv
   intro hinv
   try simp only [Act.put,List.setIfInBounds_toArray,List.set_cons_zero,List.set_cons_succ] at hinv ⊢
   refine HeldZ.take (v:=?vu12_11) 11 hinv rfl (by kernel_rfl) (by kernel_rfl) (by decide) (by decide) (by kernel_rfl) (by kernel_rfl) (by kernel_rfl) (fun _ _ _ h=>h) hS (Or.inl ⟨by rfl,?hyu12_11⟩) ?_
   case hyu12_11=>(intro w hSw;(try dsimp only at hSw);go_simp;try with_reducible rfl)
   clear hinv
   intro hinv
   try simp only [Act.put,List.setIfInBounds_toArray,List.set_cons_zero,List.set_cons_succ] at hinv ⊢
   refine HeldZ.take (v:=?vu13_12) 12 hinv rfl (by kernel_rfl) (by kernel_rfl) (by decide) (by decide) (by kernel_rfl) (by kernel_rfl) (by kernel_rfl) (fun _ _ _ h=>h) hS (Or.inl ⟨by rfl,?hyu13_12⟩) ?_
   case hyu13_12=>(intro w hSw;(try dsimp only at hSw);go_simp;try with_reducible rfl)
   clear hinv
   intro hinv
   try simp only [Act.put,List.setIfInBounds_toArray,List.set_cons_zero,List.set_cons_succ] at hinv ⊢
   refine HeldZ.take (v:=?vu14_13) 13 hinv rfl (by kernel_rfl) (by kernel_rfl) (by decide) (by decide) (by kernel_rfl) (by kernel_rfl) (by kernel_rfl) (fun _ _ _ h=>h) hS (Or.inl ⟨by rfl,?hyu14_13⟩) ?_
   case hyu14_13=>(intro w hSw;(try dsimp only at hSw);go_simp;try with_reducible rfl)
   clear hinv
   intro hinv
   try simp only [Act.put,List.setIfInBounds_toArray,List.set_cons_zero,List.set_cons_succ] at hinv ⊢
   refine HeldZ.take (v:=?vu15_14) 14 hinv rfl (by kernel_rfl) (by kernel_rfl) (by decide) (by decide) (by kernel_rfl) (by kernel_rfl) (by kernel_rfl) (fun _ _ _ h=>h) hS (Or.inl ⟨by rfl,?hyu15_14⟩) ?_
   case hyu15_14=>(intro w hSw;(try dsimp only at hSw);go_simp;try with_reducible rfl)
   clear hinv
   intro hinv
   try simp only [Act.put,List.setIfInBounds_toArray,List.set_cons_zero,List.set_cons_succ] at hinv ⊢
   refine HeldZ.take (v:=?vu16_15) 15 hinv rfl (by kernel_rfl) (by kernel_rfl) (by decide) (by decide) (by kernel_rfl) (by kernel_rfl) (by kernel_rfl) (fun _ _ _ h=>h) hS (Or.inl ⟨by rfl,?hyu16_15⟩) ?_
   case hyu16_15=>(intro w hSw;(try dsimp only at hSw);go_simp;try with_reducible rfl)
   clear hinv
   intro hinv
   try simp only [Act.put,List.setIfInBounds_toArray,List.set_cons_zero,List.set_cons_succ] at hinv ⊢
   refine HeldZ.take (v:=?vu17_16) 16 hinv rfl (by kernel_rfl) (by kernel_rfl) (by decide) (by decide) (by kernel_rfl) (by kernel_rfl) (by kernel_rfl) (fun _ _ _ h=>h) hS (Or.inl ⟨by rfl,?hyu17_16⟩) ?_
   case hyu17_16=>(intro w hSw;(try dsimp only at hSw);go_simp;try with_reducible rfl)
   clear hinv
   intro hinv
   try simp only [Act.put,List.setIfInBounds_toArray,List.set_cons_zero,List.set_cons_succ] at hinv ⊢
   refine HeldZ.take (v:=?vu18_17) 17 hinv rfl (by kernel_rfl) (by kernel_rfl) (by decide) (by decide) (by kernel_rfl) (by kernel_rfl) (by kernel_rfl) (fun _ _ _ h=>h) hS (Or.inl ⟨by rfl,?hyu18_17⟩) ?_
   case hyu18_17=>(intro w hSw;(try dsimp only at hSw);go_simp;try with_reducible rfl)
   clear hinv
   intro hinv
   try simp only [Act.put,List.setIfInBounds_toArray,List.set_cons_zero,List.set_cons_succ] at hinv ⊢
   refine HeldZ.take (v:=?vu19_18) 18 hinv rfl (by kernel_rfl) (by kernel_rfl) (by decide) (by decide) (by kernel_rfl) (by kernel_rfl) (by kernel_rfl) (fun _ _ _ h=>h) hS (Or.inl ⟨by rfl,?hyu19_18⟩) ?_
   case hyu19_18=>(intro w hSw;(try dsimp only at hSw);go_simp;try with_reducible rfl)
   clear hinv
   intro hinv
   try simp only [Act.put,List.setIfInBounds_toArray,List.set_cons_zero,List.set_cons_succ] at hinv ⊢
   refine HeldZ.take (v:=?vu20_19) 19 hinv rfl (by kernel_rfl) (by kernel_rfl) (by decide) (by decide) (by kernel_rfl) (by kernel_rfl) (by kernel_rfl) (fun _ _ _ h=>h) hS (Or.inl ⟨by rfl,?hyu20_19⟩) ?_
   case hyu20_19=>(intro w hSw;(try dsimp only at hSw);go_simp;try with_reducible rfl)
   clear hinv
   intro hinv
   try simp only [Act.put,List.setIfInBounds_toArray,List.set_cons_zero,List.set_cons_succ] at hinv ⊢
   refine HeldZ.take (v:=?vu21_20) 20 hinv rfl (by kernel_rfl) (by kernel_rfl) (by decide) (by decide) (by kernel_rfl) (by kernel_rfl) (by kernel_rfl) (fun _ _ _ h=>h) hS (Or.inl ⟨by rfl,?hyu21_20⟩) ?_
   case hyu21_20=>(intro w hSw;(try dsimp only at hSw);go_simp;try with_reducible rfl)
   clear hinv
   intro hinv
   try simp only [Act.put,List.setIfInBounds_toArray,List.set_cons_zero,List.set_cons_succ] at hinv ⊢
   refine HeldZ.take (v:=?vu22_21) 21 hinv rfl (by kernel_rfl) (by kernel_rfl) (by decide) (by decide) (by kernel_rfl) (by kernel_rfl) (by kernel_rfl) (fun _ _ _ h=>h) hS (Or.inl ⟨by rfl,?hyu22_21⟩) ?_
   case hyu22_21=>(intro w hSw;(try dsimp only at hSw);go_simp;try with_reducible rfl)
   clear hinv
   intro hinv
   try simp only [Act.put,List.setIfInBounds_toArray,List.set_cons_zero,List.set_cons_succ] at hinv ⊢
   refine HeldZ.take (v:=?vu23_22) 22 hinv rfl (by kernel_rfl) (by kernel_rfl) (by decide) (by decide) (by kernel_rfl) (by kernel_rfl) (by kernel_rfl) (fun _ _ _ h=>h) hS (Or.inl ⟨by rfl,?hyu23_22⟩) ?_
   case hyu23_22=>(intro w hSw;(try dsimp only at hSw);go_simp;try with_reducible rfl)
   clear hinv
   intro hinv
   try simp only [Act.put,List.setIfInBounds_toArray,List.set_cons_zero,List.set_cons_succ] at hinv ⊢
   refine HeldZ.take (v:=?vu24_23) 23 hinv rfl (by kernel_rfl) (by kernel_rfl) (by decide) (by decide) (by kernel_rfl) (by kernel_rfl) (by kernel_rfl) (fun _ _ _ h=>h) hS (Or.inl ⟨by rfl,?hyu24_23⟩) ?_
   case hyu24_23=>(intro w hSw;(try dsimp only at hSw);go_simp;try with_reducible rfl)
   clear hinv
   intro hinv
   try simp only [Act.put,List.setIfInBounds_toArray,List.set_cons_zero,List.set_cons_succ] at hinv ⊢
   refine HeldZ.take (v:=?vu25_24) 24 hinv rfl (by kernel_rfl) (by kernel_rfl) (by decide) (by decide) (by kernel_rfl) (by kernel_rfl) (by kernel_rfl) (fun _ _ _ h=>h) hS (Or.inl ⟨by rfl,?hyu25_24⟩) ?_
   case hyu25_24=>(intro w hSw;(try dsimp only at hSw);go_simp;try with_reducible rfl)
   clear hinv
   intro hinv
   try simp only [Act.put,List.setIfInBounds_toArray,List.set_cons_zero,List.set_cons_succ] at hinv ⊢
   refine HeldZ.one 25 hinv (by kernel_rfl) rfl rfl ?_
   clear hinv
   intro hinv K hK
   have hinv:=hinv (by decide)
   go_simp
   have hB2:Below w.heap.size w (wr.alloc (.cells #[.int .i64 (xa:Nat),.int .i64 (xb:Nat),.int .i64 (xc:Nat)] 3)).drew:=bel_drew (bel_alloc HBw.out _)
   refine hK _ _ (fun _=>HK.out _ hB2) ?_
   clear hK K
   try simp only [Act.put,List.setIfInBounds_toArray,List.set_cons_zero,List.set_cons_succ] at hinv ⊢
   refine HeldZ.oneL 26 hinv (by kernel_rfl) rfl rfl ?_
   clear hinv
   intro hinv K hK
   have hinv:=hinv (by decide)
   refine Kd.own_app_step intK (w0:=w) w.heap.size (by rfl) (.tmp 18) (.tmp 43) 74 3 Clones.zero_int 8 (by rfl) Tryz.underlying74 Clones.info_int rfl (by decide) (.slice A6 Y.length c6) Y [(xa:Int),(xb:Int),(xc:Int)] (some ⟨wr.drew.heap.size,0,none⟩) 3 Clones.TT (by rfl) (by rfl) ?ho (.inr ⟨?hr,Clones.any_int⟩) ?hbb ?hs ?hl ?_
   case ho=>exact Kd.own_drew (Kd.own_alloc HOw.out _)
   case hr=>exact intK.sl.mono (fun _ _ _=>trivial) (Kd.M_below (Kd.M_bound (HThree.out wr 3)) (bel_drew (Below.refl _ _)))
   case hbb=>exact hB2
   case hs=>simp;omega
   case hl=>simp;omega
   intro v1 w3 ho3 hb3 hg3 hv3
   rw [HSn.out] at ho3
   obtain ⟨Y3,hY3⟩:∃ Y3,Y3 = natZ (nums (I.take (k + 1))):=⟨_,rfl⟩
   rw [← hY3] at ho3
   have HY3:=Lib.hid hY3
   have HO3:=Lib.hid ho3
   obtain ⟨A7,c7,rfl,_,_⟩:=Kd.own_slice ho3
   have HB3:=Lib.hid hb3
   refine hK _ _ (fun _=>HK.out _ hb3) ?_
   clear hK K hY3 ho3 hg3 hv3 hB2
   try simp only [Act.put,List.setIfInBounds_toArray,List.set_cons_zero,List.set_cons_succ] at hinv ⊢
   refine HeldZ.one 27 hinv (by kernel_rfl) rfl rfl ?_
   clear hinv
   intro _ K hK
   go_simp
   refine hK _ _ (fun h=>absurd rfl h) ?_
   refine HeldZ.done (by kernel_rfl) ?_ _
   clear hS hK K HK HOw
   go_wp2
   go_roundw
   case rel=>exact ⟨k + 1,by go_num,by omega,Lib.hid ⟨by rw [← HY3.out];exact HO3.out,HB3.out⟩⟩
   case measure=>simp [intOf];omega
  ·
   have hd2:decide (k < I.length) = false:=decide_eq_false hlt2
   have HYn:Hid (Y = natZ (nums I)):=Lib.hid (by rw [HYe.out,List.take_of_length_le (by omega)])
   have hyl:Y.length = (nums I).length:=by rw [HYn.out,natZ_len]
   have HYl:=Lib.hid hyl
   have HBw:=Lib.hid HJ.out.2
   have k1:=HG1.out wr HBw.out
   have HWd:=Lib.hid (Ref2.width_calls E.length (by omega) wr)
   rw [← HWide.out.1] at HWd
   have HSec0:=Lib.hid HSecs.out
   obtain ⟨wd,hwd⟩:∃ wd,wd = wide T:=⟨_,rfl⟩
   rw [← hwd] at HWd HBits HSecs HBl
   have HW9:Hid (wd ≤ 9):=Lib.hid (by rw [hwd];exact HWide.out.2)
   have HPc:=Lib.hid (Ref2.pack_calls (nums I) wd (by have:=HW9.out;omega) (by rw [nums_len];omega) HBits.out A6 c6 wr (by
    have h1:=Kd.M_bound (Kd.own_sl (ok:=Clones.TT) (ok':=fun _=>True) HJ.out.1 (fun _ _=>trivial) (fun _ _=>trivial))
    rw [HYn.out,natZ_len] at h1
    exact h1))
   rw [← HYl.out] at HPc
   obtain ⟨Pb,hPb⟩:∃ Pb,Pb = packB (nums I) wd:=⟨_,rfl⟩
   rw [← hPb] at HPc HSecs HBl
   obtain ⟨Bd,hBd⟩:∃ Bd,Bd = headN I.length ++ Pb:=⟨_,rfl⟩
   have HBd:=Lib.hid hBd
   rw [← hBd] at HSecs HBl
   obtain ⟨F,hF⟩:∃ F,F = frontB L:=⟨_,rfl⟩
   have HFe:=Lib.hid hF
   rw [← hF] at HSecs
   have hPl:Pb.length ≤ 400:=by have:=HBl.out;rw [hBd,List.length_append] at this;omega
   clear hPb hBd hF hwd HJ hyl HRow
   go_wp2_with (first
    | (go_at_call 77;refine HWd.out.mono ?_;rintro e w' ⟨rfl,rfl⟩)
    | (go_at_call 39;refine HPc.out.mono ?_;rintro e w9 ⟨⟨v9,rfl,ho9⟩,hb9⟩;have HB9:=Lib.hid (bel_step HBw.out hb9);have HO9:=Lib.hid ho9;clear ho9 hb9;obtain ⟨A9,c9,rfl,_,_⟩:=Kd.own_slice HO9.out))
   have HK0:Hid (∀ w',Below w9.heap.size w9 w' → w'.cell? ⟨g,2,none⟩ = some (Value.slice A2 E.length c2)∧w'.cell? ⟨g,3,none⟩ = some (Value.slice A3 I.length c3)):=Lib.hid (fun W hb=>⟨HG2.out W (bel_step HB9.out hb),HG3.out W (bel_step HB9.out hb)⟩)
   have HRr:=Lib.hid (Kd.own_sl (ok:=Clones.TT) (ok':=fun _=>True) HO9.out (fun _ _=>trivial) (fun _ _=>trivial))
   have hcur:=Below.refl w9.heap.size w9
   obtain ⟨k2,k3⟩:=HK0.out w9 hcur
   have HBy:=Lib.hid (fun W (hb:Below w9.heap.size w9 W)=>Ref6.bytes_calls L (by rw [HTl.out];exact hE) (fun x hx=>by have:=HShort.out x hx;omega) A2 c2 W (HMS.out W (bel_step HB9.out hb)))
   rw [← HFe.out] at HBy
   have HMS2:=Lib.hid HMS.out
   rw [HTl.out] at HBy
   have HQa:Hid (IntKind.u8.wrap ((I.length:Int) / 256) = (I.length:Int) / 256):=Lib.hid (by rw [IntKind.wrap_u8'];omega)
   have HQb:Hid (IntKind.u8.wrap (I.length:Int) = (I.length:Int) % 256):=Lib.hid (by rw [IntKind.wrap_u8'])
   clear k1 HMS HMS2
   go_cut [7] (fun v7 wx=>Hid (byteK.own 5 wx w.heap.size Clones.TT v7 (encT T))∧Hid (Below w.heap.size w wx))
   case first =>
    go_region_held3 (fun w'=>w'.cell? ⟨g,2,none⟩ = some (Value.slice A2 E.length c2)∧w'.cell? ⟨g,3,none⟩ = some (Value.slice A3 I.length c3))
     (exact HK0.out _ (by repeat (first | exact Below.refl _ _ | assumption | refine bel_drew ?_ | refine bel_alloc ?_ _)))
     (first
      | (go_at_call 41;refine (HBy.out _ ?bl).mono ?_;go_loud (case bl=>repeat (first | exact Below.refl _ _ | assumption | refine bel_drew ?_ | refine bel_alloc ?_ _));rintro e w11 ⟨⟨v11,rfl,ho⟩,hb11⟩;have hcur:Below w9.heap.size w9 w11:=bel_step (by repeat (first | exact Below.refl _ _ | assumption | refine bel_drew ?_ | refine bel_alloc ?_ _)) hb11;have HSf:=Lib.hid (Kd.own_sl (ok:=Clones.TT) (ok':=fun _=>True) ho (fun _ _=>trivial) (fun _ _=>trivial));have hof:=StoreW.own_any any_u8 (ok':=Made.FF) ho;obtain ⟨A11,c11,rfl,_,_⟩:=Kd.own_slice ho;have HOf:=Lib.hid hof;clear ho hof)
      | (refine Kd.own_app_step byteK (w0:=w9) w9.heap.size (by rfl) (.tmp 76) (.tmp 77) 55 5 (.int .u8 0) 1 (by rfl) Tryz.underlying55 PackW.info_u8 rfl (by decide) (.slice (some ⟨w9.heap.size,0,none⟩) 2 2) (headN I.length) Pb A9 c9 Clones.TT (by rfl) (by rfl) ?ho (.inr ⟨?hr,any_u8⟩) ?hb ?hs ?hl ?_;go_loud (case ho=>(have hb:=hb11;rw [HQa.out,HQb.out] at hb;refine Kd.own_below ?_ hb;repeat (first | exact head_own _ _ _ (Nat.le_refl _) (by omega) | refine Kd.own_drew ?_)));go_loud (case hr=>exact byteK.sl.mono (fun _ _ _=>trivial) (Kd.M_below (Kd.M_bound HRr.out) hcur));go_loud (case hb=>exact hcur);go_loud (case hs=>exact hcur.size);go_loud (case hl=>have hh2:(headN I.length).length = 2:=rfl;omega);intro v1 w12 ho1 hb1 hg1 hv1;go_loud (rw [← HBd.out] at ho1);have HSf12:=Lib.hid (Kd.own_sl (ok:=Made.FF) (ok':=fun _=>True) (Kd.own_grown HOf.out hg1 (fun k h=>h.elim) (fun k hk e=>by have h1:=(Kd.own_lt HOf.out k hk).1;simp at h1;simp [Value.ownBlock] at e;omega)) (fun _ _=>trivial) (fun _ _=>trivial));have HSb12:=Lib.hid (Kd.own_sl (ok:=Clones.TT) (ok':=fun _=>True) ho1 (fun _ _=>trivial) (fun _ _=>trivial));have hcur2:=hb1;obtain ⟨A12,c12,rfl,_,_⟩:=Kd.own_slice ho1;clear ho1 hg1 hv1)
      | (refine Kd.own_app_step byteK (w0:=w11) w11.heap.size (by rfl) (.tmp 76) (.tmp 77) 55 5 (.int .u8 0) 1 (by rfl) Tryz.underlying55 PackW.info_u8 rfl (by decide) (.slice (some ⟨w11.heap.size,0,none⟩) 2 2) (headN I.length) Pb A9 c9 Clones.TT (by rfl) (by rfl) ?ho (.inr ⟨?hr,any_u8⟩) ?hb ?hs ?hl ?_;go_loud (case ho=>(rw [HQa.out,HQb.out];exact head_own _ _ _ (Nat.le_refl _) (by omega)));go_loud (case hr=>exact byteK.sl.mono (fun _ _ _=>trivial) (Kd.M_below (Kd.M_bound HRr.out) (bel_alloc hcur _)));go_loud (case hb=>exact bel_alloc (Below.refl _ _) _);go_loud (case hs=>simp);go_loud (case hl=>have hh2:(headN I.length).length = 2:=rfl;omega);intro v1 w12 ho1 hb1 hg1 hv1;go_loud (rw [← HBd.out] at ho1);have HSf12:=Lib.hid (byteK.sl.mono (ok':=fun _=>True) (fun _ _ _=>trivial) (Kd.M_below (Kd.M_bound HSf.out) hb1));have HSb12:=Lib.hid (Kd.own_sl (ok:=Clones.TT) (ok':=fun _=>True) ho1 (fun _ _=>trivial) (fun _ _=>trivial));have hcur2:Below w9.heap.size w9 w12:=bel_step hcur hb1;obtain ⟨A12,c12,rfl,_,_⟩:=Kd.own_slice ho1;clear ho1 hg1 hv1 hb1)
      | (go_at_call 40;refine (HPk.out _ _ (by rw [HSecs.out];exact two_secs HSf12.out HSb12.out (by omega) (by omega))).mono ?_;rintro e w13 ⟨⟨u,rfl,ho⟩,hb13⟩;obtain ⟨A13,c13,rfl,_,_⟩:=Kd.own_slice ho;have HB13:Below w9.heap.size w9 w13:=bel_step (bel_alloc hcur2 _) hb13;have HOe:=Lib.hid (Kd.own_lower (base':=w.heap.size) (by have:=bel_step HB9.out hcur2;have:=this.size;simp;omega) ho);clear ho)
      | fail)
    all_goals (go_wp2_with fail;go_meet;exact ⟨HOe,Lib.hid (bel_step HB9.out HB13)⟩)
   case rest =>
    obtain ⟨HO7,HB7⟩:=hcut
    obtain ⟨A7,c7,rfl,_,_⟩:=Kd.own_slice HO7.out
    go_wp2
    go_ret
    exact ⟨⟨_,rfl,HO7.out⟩,HB7.out⟩
end Go.Proofs.YtnplommdgfgboaaGreatDoor.RefEnc
namespace Go.Proofs.YtnplommdgfgboaaGreatDoor.RingC
open Go.RowKit Go.Lib B Rd TermPure LinesPure Tri SortP OrdG Cmp StoreW StoreM
set_option maxHeartbeats 3200000 in
set_option maxRecDepth 100000 in
theorem ring_calls (T:List Triple) (g:Nat) (w:World) (ok:Nat → Prop) (h:StoreAt w ok g T) :
  Calls Tryz.prog 22 #[.pointer (some ⟨g,0,none⟩)] w fun e w'=>(∃ h,e = .returned (.pointer (some ⟨h,0,none⟩))∧RingAt w' ok h (idsT T))∧Below w.heap.size w w':=by
 obtain ⟨_,_,_,r,hr,hrr⟩:=h
 have HR:=Lib.hid hrr
 clear hrr
 go_enter Tryz.func22,Tryz.ntmps22
 go_wp2
 go_ret
 exact ⟨⟨r,rfl,HR.out⟩,Below.refl _ _⟩
end Go.Proofs.YtnplommdgfgboaaGreatDoor.RingC
namespace Go.Proofs.YtnplommdgfgboaaGreatDoor.TermAt
open Go.RowKit Go.Lib B Rd TermPure LinesPure Tri SortP OrdG Cmp StoreW Search
theorem term_none (T:List Triple) (id:Int) (hid:id < 1 ∨ ((termsT T).length:Int) < id) (g:Nat) (w:World) (ok:Nat → Prop) (h:StoreAt w ok g T) :
  Calls Tryz.prog 33 #[.pointer (some ⟨g,0,none⟩),.int .i64 id] w fun e w'=>e = .returned (.tuple #[.agg #[.int .i64 0,.string ⟨#[]⟩,.string ⟨#[]⟩],.bool false])∧Below w.heap.size w w':=by
 obtain ⟨_,_,⟨A,c,hc,hM⟩,_⟩:=h
 obtain ⟨n,hn⟩:∃ n,n = (termsT T).length:=⟨_,rfl⟩
 rw [← hn] at hc hid
 have hb:Below w.heap.size w (w.alloc (.cells #[.int .i64 0,.string ⟨#[]⟩,.string ⟨#[]⟩] 24)):=bel_alloc (Below.refl _ _) _
 have hc0:=(hb.cell (p:=⟨g,1,none⟩) (cell_lt hc)).trans hc
 clear hM hn hb
 go_enter Tryz.func33,Tryz.ntmps33
 by_cases h1:id < 1
 ·
  have hd:decide (id < 1) = true:=decide_eq_true h1
  go_wp2
  refine bodyPost_ret (v:=.tuple #[.agg #[.int .i64 0,.string ⟨#[]⟩,.string ⟨#[]⟩],.bool false]) (by simp [results,Tryz.results33,go_sem]) rfl ?_
  exact ⟨rfl,bel_alloc (Below.refl _ _) _⟩
 have hd:decide (id < 1) = false:=decide_eq_false h1
 have h2:(n:Int) < id:=hid.resolve_left h1
 have hd2:decide ((n:Int) < id) = true:=decide_eq_true h2
 go_wp2
 refine bodyPost_ret (v:=.tuple #[.agg #[.int .i64 0,.string ⟨#[]⟩,.string ⟨#[]⟩],.bool false]) (by simp [results,Tryz.results33,go_sem]) rfl ?_
 exact ⟨rfl,bel_alloc (Below.refl _ _) _⟩
theorem term_at (T:List Triple) (i:Nat) (hi:i < (termsT T).length) (h6:(termsT T).length ≤ 1000000) (g:Nat) (w:World) (ok:Nat → Prop) (h:StoreAt w ok g T) :
  Calls Tryz.prog 33 #[.pointer (some ⟨g,0,none⟩),.int .i64 ((i + 1:Nat):Int)] w fun e w'=>e = .returned (.tuple #[Ref5.termV ((termsT T)[i]),.bool true])∧Below w.heap.size w w':=by
 obtain ⟨_,_,⟨A,c,hc,hM⟩,_⟩:=h
 obtain ⟨b,off,rfl,_,hbs,hcells⟩:=term_cells hM (by omega)
 have hcx:=hcells i hi
 obtain ⟨t,ht⟩:∃ t,t = (termsT T)[i]:=⟨_,rfl⟩
 rw [← ht] at hcx
 rw [← ht]
 obtain ⟨n,hn⟩:∃ n,n = (termsT T).length:=⟨_,rfl⟩
 rw [← hn] at hc hi h6
 have hb:Below w.heap.size w (w.alloc (.cells #[.int .i64 0,.string ⟨#[]⟩,.string ⟨#[]⟩] 24)):=bel_alloc (Below.refl _ _) _
 have hc0:=(hb.cell (p:=⟨g,1,none⟩) (cell_lt hc)).trans hc
 have hcy:=hcx.below hb
 have y0:=hcy.c0
 have y1:=hcy.c1
 have y2:=hcy.c2
 clear hM hn hb hcells ht hcx hcy
 have d1:decide (((i:Int) + 1) < 1) = false:=decide_eq_false (by omega)
 have d2:decide ((n:Int) < (i:Int) + 1) = false:=decide_eq_false (by omega)
 have ik:(i:Int) < (n:Int):=by omega
 obtain ⟨tk,tx,te⟩:=t
 unfold Ref5.termV
 go_enter Tryz.func33,Tryz.ntmps33
 go_wp2
 refine bodyPost_ret (v:=.tuple #[.agg #[.int .i64 tk,.string (mkS tx),.string (mkS te)],.bool true]) (by simp [results,Tryz.results33,go_sem]) rfl ?_
 exact ⟨rfl,bel_alloc (Below.refl _ _) _⟩
end Go.Proofs.YtnplommdgfgboaaGreatDoor.TermAt
namespace Go.Proofs.YtnplommdgfgboaaGreatDoor.Alike
open Go.RowKit Go.Lib B Rd TermPure LinesPure Tri SortP OrdG TermW Print Cmp Long StoreW StoreM ParseP Parse ParseOk SPrint StoreP Encode SortW SCommon IdsW IdsAll RefOf Search
theorem ref_below {w w1:World} {g:Nat} {T:List Triple} (h:RefAt w (fun _=>True) g T) (hb:Below w.heap.size w w1):RefAt w1 (fun _=>True) g T:=by
 obtain ⟨⟨A0,c0,h0,m0⟩,⟨A1,c1,h1,m1⟩,⟨A2,c2,h2,m2⟩,⟨A3,c3,h3,m3⟩⟩:=h
 exact ⟨⟨A0,c0,(hb.cell (p:=⟨g,0,none⟩) (cell_lt h0)).trans h0,triK.sl.mono (fun _ _ _=>trivial) (Kd.M_below (Kd.M_bound m0) hb)⟩,
  ⟨A1,c1,(hb.cell (p:=⟨g,1,none⟩) (cell_lt h1)).trans h1,termK.sl.mono (fun _ _ _=>trivial) (Kd.M_below (Kd.M_bound m1) hb)⟩,
  ⟨A2,c2,(hb.cell (p:=⟨g,2,none⟩) (cell_lt h2)).trans h2,strK.sl.mono (fun _ _ _=>trivial) (Kd.M_below (Kd.M_bound m2) hb)⟩,
  ⟨A3,c3,(hb.cell (p:=⟨g,3,none⟩) (cell_lt h3)).trans h3,idsK.sl.mono (fun _ _ _=>trivial) (Kd.M_below (Kd.M_bound m3) hb)⟩⟩
structure AL (w wr:World) (gs gx:Nat) (T:List Triple):Prop where
 bel:Below w.heap.size w wr
 st:StoreAt wr (fun _=>True) gs T
 rf:RefAt wr (fun _=>True) gx T
theorem AL.below {w wr w1:World} {gs gx:Nat} {T:List Triple} (h:AL w wr gs gx T) (hb:Below wr.heap.size wr w1):AL w w1 gs gx T:=
 ⟨bel_step h.bel hb,h.st.below hb,ref_below h.rf hb⟩
theorem AL.id {w wr:World} {gs gx:Nat} {T:List Triple} (h:AL w wr gs gx T) (hv:Valid T) (hE:(termsT T).length ≤ 300) (y:Term) (hy:SmallM y) :
  Calls Tryz.prog 18 #[.pointer (some ⟨gs,0,none⟩),Ref5.termV y] wr fun e w'=>e = .returned (.int .i64 (idOf (termsT T) y:Nat))∧Below wr.heap.size wr w':=by
 obtain ⟨_,_,⟨A',c',hc,hM⟩,_⟩:=h.st
 exact id_calls (termsT T) y (termsT_rise hv) (fun x hx=>by have:=is_small (termsT_is hv x hx);unfold SmallM;omega) hy gs A' c' wr hc (Kd.M_bound hM) (by omega)
theorem idOf_at {l:List Term} (hr:l.Pairwise ltTm) (i:Nat) (h:i < l.length):idOf l l[i] = i + 1:=
 idOf_first h rfl (fun j hj hji e=>by
  have:=List.pairwise_iff_getElem.1 hr j i hj h hji
  rw [e] at this
  exact List.lt_irrefl _ this)
theorem same_self (l:List Triple) (A B:Option Addr) (c d:Nat) (w:World) (HL:triK.sl.M w (fun k=>k < w.heap.size) l [.slice A l.length c]) (HM:triK.sl.M w (fun k=>k < w.heap.size) l [.slice B l.length d]) :
  Calls Tryz.prog 30 #[.slice A l.length c,.slice B l.length d] w fun e w'=>e = .returned (.bool true)∧Below w.heap.size w w':=by
 refine (same_calls l l A B c d w HL HM).mono ?_
 rintro e w' ⟨rfl,hb⟩
 exact ⟨by rw [decide_eq_true rfl],hb⟩
theorem same8_self (l:List Ids) (A B:Option Addr) (c d:Nat) (w:World) (HL:idsK.sl.M w (fun k=>k < w.heap.size) l [.slice A l.length c]) (HM:idsK.sl.M w (fun k=>k < w.heap.size) l [.slice B l.length d]) (h47:l.length ≤ 1000000) :
  Calls Tryz.prog 25 #[.slice A l.length c,.slice B l.length d] w fun e w'=>e = .returned (.bool true)∧Below w.heap.size w w':=by
 refine (same8_calls l l A B c d w HL HM h47 h47).mono ?_
 rintro e w' ⟨rfl,hb⟩
 exact ⟨by rw [decide_eq_true rfl],hb⟩
set_option maxHeartbeats 12800000 in
set_option maxRecDepth 100000 in
theorem alike_calls (T:List Triple) (hv:Valid T) (hl:T.length ≤ 100) (gs gx:Nat) (w:World) (hs:StoreAt w (fun _=>True) gs T) (hx:RefAt w (fun _=>True) gx T) :
  Calls Tryz.prog 32 #[.pointer (some ⟨gs,0,none⟩),.pointer (some ⟨gx,0,none⟩)] w fun e w'=>e = .returned (.bool true)∧Below w.heap.size w w':=by
 have HS0:Hid (AL w w gs gx T):=Lib.hid ⟨Below.refl _ _,hs,hx⟩
 have HV:=Lib.hid hv
 have HEl:=Lib.hid (E_len hv hl)
 have HRise:=Lib.hid (termsT_rise hv)
 have HIs:=Lib.hid (termsT_is hv)
 have HIl:=Lib.hid (ids_len T)
 have HSm:Hid (∀ t ∈ T,SmallT t):=Lib.hid (fun t ht=>(valid_small (hv t ht)).1)
 have HFl:=Lib.hid (flat_valid hv (by omega))
 obtain ⟨A0,c0,hc0,hM0⟩:=hx.tri
 have HM0:=Lib.hid (fun W (hb:Below w.heap.size w W)=>Kd.M_bound (Kd.M_below (Kd.M_bound hM0) hb))
 have HK0:Hid (∀ W,Below w.heap.size w W → W.cell? ⟨gx,0,none⟩ = some (.slice A0 T.length c0)):=Lib.hid (fun W hb=>(hb.cell (p:=⟨gx,0,none⟩) (cell_lt hc0)).trans hc0)
 have HLn:=Lib.hid (fun W (hb:Below w.heap.size w W)=>len_calls T hl gs W _ (HS0.out.below hb).st)
 have HTr:=Lib.hid (fun W (hb:Below w.heap.size w W)=>triples_calls T hl gs W _ (HS0.out.below hb).st)
 have HEx:=Lib.hid (fun W (hb:Below w.heap.size w W)=>export_calls T hv hl gs W _ (HS0.out.below hb).st)
 have HPr:=Lib.hid (fun W (hb:Below w.heap.size w W)=>refprint_calls T A0 c0 W (HM0.out W hb) HSm.out (by have:=HFl.out;omega))
 have HSame:=Lib.hid (fun A c W (hm:triK.sl.M W (fun k=>k < W.heap.size) T [.slice A T.length c]) (hb:Below w.heap.size w W)=>same_self T A A0 c c0 W hm (HM0.out W hb))
 obtain ⟨X,hX⟩:∃ X,X = T.flatMap lineN:=⟨_,rfl⟩
 rw [← hX] at HEx HPr
 have tX:=mkS_toList X
 have hqX:(X == X) = true:=by simp
 have hcur:=Below.refl w.heap.size w
 have k0:=HK0.out w hcur
 clear hX hM0 hc0 hs hx hv
 go_enter Tryz.func32,Tryz.ntmps32
 go_upto_region 1 with fail
 go_cut [45] (fun v45 wx=>v45 = .bool false∧Hid (Below w.heap.size w wx))
 case first =>
  go_region_held3 (fun W=>W.cell? ⟨gx,0,none⟩ = some (Value.slice A0 T.length c0)) (exact HK0.out _ (by repeat (first | assumption | exact Below.refl _ _ | refine bel_drew ?_ | refine bel_alloc ?_ _))) (first
   | (go_at_call 24;refine (HLn.out _ ?_).mono ?_;(repeat (first | assumption | exact Below.refl _ _ | refine bel_drew ?_ | refine bel_alloc ?_ _));rintro e w9 ⟨rfl,hbc⟩;have hcur:Below w.heap.size w w9:=bel_step (by repeat (first | assumption | exact Below.refl _ _ | refine bel_drew ?_ | refine bel_alloc ?_ _)) hbc;have k0:=HK0.out w9 hcur)
   | (go_at_call 34;refine (HTr.out _ ?_).mono ?_;(repeat (first | assumption | exact Below.refl _ _ | refine bel_drew ?_ | refine bel_alloc ?_ _));rintro e w10 ⟨⟨v10,rfl,ho10⟩,hbc⟩;have hM10:=Kd.M_bound (Kd.own_sl (ok:=fun _=>True) ho10 (fun k hk=>trivial) (fun k hk=>trivial));obtain ⟨A10,c10,rfl,_,_⟩:=Kd.own_slice ho10;have HM10:=Lib.hid hM10;clear ho10 hM10;have hcur:Below w.heap.size w w10:=bel_step (by repeat (first | assumption | exact Below.refl _ _ | refine bel_drew ?_ | refine bel_alloc ?_ _)) hbc;have k0:=HK0.out w10 hcur)
   | (go_at_call 30;refine (HSame.out A10 c10 _ (Kd.M_bound (Kd.M_below HM10.out (by repeat (first | exact Below.refl _ _ | refine bel_drew ?_ | refine bel_alloc ?_ _)))) ?_).mono ?_;(repeat (first | assumption | exact Below.refl _ _ | refine bel_drew ?_ | refine bel_alloc ?_ _));rintro e w11 ⟨rfl,hbc⟩;have hcur:Below w.heap.size w w11:=bel_step (by repeat (first | assumption | exact Below.refl _ _ | refine bel_drew ?_ | refine bel_alloc ?_ _)) hbc;have k0:=HK0.out w11 hcur)
   | (go_at_call 29;refine (HEx.out _ ?_).mono ?_;(repeat (first | assumption | exact Below.refl _ _ | refine bel_drew ?_ | refine bel_alloc ?_ _));rintro e w12 ⟨rfl,hbc⟩;have hcur:Below w.heap.size w w12:=bel_step (by repeat (first | assumption | exact Below.refl _ _ | refine bel_drew ?_ | refine bel_alloc ?_ _)) hbc;have k0:=HK0.out w12 hcur)
   | (go_at_call 14;refine (HPr.out _ ?_).mono ?_;(repeat (first | assumption | exact Below.refl _ _ | refine bel_drew ?_ | refine bel_alloc ?_ _));rintro e w13 ⟨rfl,hbc⟩;have hcur:Below w.heap.size w w13:=bel_step (by repeat (first | assumption | exact Below.refl _ _ | refine bel_drew ?_ | refine bel_alloc ?_ _)) hbc;have k0:=HK0.out w13 hcur)
   | fail)
  all_goals (have HBf:=Lib.hid hcur;go_wp2_with fail;go_meet;exact ⟨rfl,HBf⟩)
 case rest =>
  obtain ⟨rfl,HBc⟩:=hcut
  have HSc:=Lib.hid (HS0.out.below HBc.out)
  have HTm:=Lib.hid (terms_calls T HEl.out gs wc _ HSc.out.st)
  clear k0 hcur tX hqX HLn HTr HEx HPr HSame HK0 HM0 HS0 HBc
  go_wp2_with fail
  refine HTm.out.mono ?_
  rintro e w2 ⟨⟨v5,rfl,ho⟩,hb⟩
  obtain ⟨A5,c5,rfl,_,_⟩:=Kd.own_slice ho
  have HS2:=Lib.hid (HSc.out.below hb)
  have HM5:=Lib.hid (Kd.M_bound (Kd.own_sl (ok:=fun _=>True) ho (fun k hk=>trivial) (fun k hk=>trivial)))
  obtain ⟨E,hE⟩:∃ E,E = termsT T:=⟨_,rfl⟩
  have HEe:=Lib.hid hE
  obtain ⟨A1,c1,hg1,hM1⟩:=HS2.out.rf.terms
  rw [← hE] at HM5 HEl HRise HIs hg1 hM1
  rw [← hE]
  have HM1:=Lib.hid (Kd.M_bound hM1)
  have HG1:=Lib.hid hg1
  have hE300:=HEl.out
  clear ho hb hE hg1 hM1 HSc HTm
  have k1:=HG1.out
  go_wp2
  go_loopw [6] (fun vi wr=>∃ i:Nat,vi = .int .i64 i∧i ≤ E.length∧Hid (AL w wr gs gx T∧Below w2.heap.size w2 wr)) (fun vi _=>E.length - (intOf vi).toNat)
  case atStart=>exact ⟨0,rfl,by omega,Lib.hid ⟨HS2.out,Below.refl _ _⟩⟩
  case round =>
   obtain ⟨i,rfl,hi,HI⟩:=hrel
   clear k1
   by_cases hlt:i < E.length
   ·
    have hd:decide (i < E.length) = true:=decide_eq_true hlt
    have ii:(i:Int) < (E.length:Int):=by omega
    have hw1:IntKind.i64.wrap ((i:Int) + 1) = (i:Int) + 1:=by rw [IntKind.wrap_i64];omega
    have HTm:=TermAt.term_at T i (by rw [← HEe.out];exact hlt) (by rw [← HEe.out];omega) gs wr _ HI.out.1.st
    rw [show ((i + 1:Nat):Int) = (i:Int) + 1 by omega] at HTm
    obtain ⟨t,ht⟩:∃ t,t = E[i]:=⟨_,rfl⟩
    have hte:(termsT T)[i]'(by rw [← HEe.out];exact hlt) = t:=by
     rw [ht]
     have:∀ (l:List Term) (h:l = E) (h1:i < l.length),l[i] = E[i]:=by rintro l rfl h1;rfl
     exact this _ HEe.out.symm _
    rw [hte] at HTm
    have HTm:=Lib.hid HTm
    have hsm:SmallM t:=by have:=is_small (HIs.out t (by rw [ht];exact List.getElem_mem hlt));unfold SmallM;omega
    have hid:idOf E t = i + 1:=by rw [ht];exact idOf_at HRise.out i hlt
    have HId:=Lib.hid (fun W (h:AL w W gs gx T)=>h.id HV.out (by rw [← HEe.out];exact hE300) t hsm)
    rw [← HEe.out,hid] at HId
    have hne:∀ W,(binOp .neq 24 (.agg #[.int .i64 t.kind,.string (mkS t.text),.string (mkS t.extra)]) (.agg #[.int .i64 t.kind,.string (mkS t.text),.string (mkS t.extra)])).run Tryz.prog W = .ok (.bool false) W:=fun W=>by
     have:=run_ne_term t t W
     rw [decide_eq_true rfl] at this
     exact this
    have HNe:=Lib.hid hne
    obtain ⟨b5,o5,rfl,_,hbs5,hcells5⟩:=term_cells HM5.out (by omega)
    obtain ⟨b1,o1,rfl,_,hbs1,hcells1⟩:=term_cells HM1.out (by omega)
    have hx5:=(hcells5 i hlt).below HI.out.2
    have hx1:=(hcells1 i hlt).below HI.out.2
    rw [← ht] at hx5 hx1
    have hg1:=(HI.out.2.cell (p:=⟨gx,1,none⟩) (cell_lt HG1.out)).trans HG1.out
    have HX5:=Lib.hid hx5
    have HX1:=Lib.hid hx1
    have HGr:=Lib.hid hg1
    clear ht hte hsm hid hne hcells5 hcells1 hx5 hx1 hg1
    go_wp2_with fail
    refine HTm.out.mono ?_
    rintro e w3 ⟨rfl,hb⟩
    have hb4:Below wr.heap.size wr (w3.alloc (.cells (termL t).toArray 24)):=bel_alloc hb _
    have hnw:=C3.new w3 t
    have hs4:Hid (w3.heap.size < (w3.alloc (.cells (termL t).toArray 24)).heap.size):=Lib.hid (by simp)
    obtain ⟨w4,hw4⟩:∃ w4,w4 = w3.alloc (.cells (termL t).toArray 24):=⟨_,rfl⟩
    rw [← hw4] at hb4 hnw hs4
    have HWX:Hid (w3.alloc (.cells #[.int .i64 t.kind,.string (mkS t.text),.string (mkS t.extra)] 24) = w4):=Lib.hid hw4.symm
    have HS4:=Lib.hid (HI.out.1.below hb4)
    have HB24:=Lib.hid (bel_step HI.out.2 hb4)
    have h5:=HX5.out.below hb4
    have h1:=HX1.out.below hb4
    have hg4:=(hb4.cell (p:=⟨gx,1,none⟩) (cell_lt HGr.out)).trans HGr.out
    have a0:=fun p:QT.Bel w4=>(h5.bel p).c0
    have a1:=fun p:QT.Bel w4=>(h5.bel p).c1
    have a2:=fun p:QT.Bel w4=>(h5.bel p).c2
    have x0:=fun p:QT.Bel w4=>(h1.bel p).c0
    have x1:=fun p:QT.Bel w4=>(h1.bel p).c1
    have x2:=fun p:QT.Bel w4=>(h1.bel p).c2
    have y0:=fun p:QT.Bel w4=>(hnw.bel p).c0
    have y1:=fun p:QT.Bel w4=>(hnw.bel p).c1
    have y2:=fun p:QT.Bel w4=>(hnw.bel p).c2
    have gp:=fun p:QT.Bel w4=>p.cell (b:=gx) (o:=1) hg4
    have HIp:=Lib.hid (fun p:QT.Bel w4=>HId.out p.w (HS4.out.below p.bel))
    have hqq:=HNe.out
    simp only [Nat.zero_add] at y1 y2
    clear hw4 hb hb4 hnw h5 h1 hg4 HId HNe HX5 HX1 HGr HTm HI
    obtain ⟨tk,tx,te⟩:=t
    unfold Ref5.termV at HIp ⊢
    dsimp only at a0 a1 a2 x0 x1 x2 y0 y1 y2 HIp hqq HWX
    dsimp only
    go_upto_region 10 with fail
    rw [HWX.out]
    clear HWX
    refine QT.region_all (by kernel_rfl) (by kernel_rfl) ?_
    iterate 30 (go_big_quiet_step (fail))
    go_big_quiet_step (exact QT.Bel.call _ (HIp.out _))
    iterate 4 (go_big_quiet_step (fail))
    refine wpQuiet_nil ?_
    intro w5 hw'
    obtain ⟨⟨_,hb5⟩,rfl⟩:=hw'
    have HS5:=Lib.hid (HS4.out.below hb5)
    have HB25:=Lib.hid (bel_step HB24.out hb5)
    clear hb5 a0 a1 a2 x0 x1 x2 y0 y1 y2 gp HIp hqq HS4 HB24
    go_wp2
    go_roundw
    case rel=>exact ⟨i + 1,by go_num,by omega,Lib.hid ⟨HS5.out,HB25.out⟩⟩
    case measure=>simp [intOf];omega
   ·
    have hd:decide (i < E.length) = false:=decide_eq_false hlt
    have HSr:=Lib.hid HI.out.1
    have hw1:IntKind.i64.wrap ((E.length:Int) + 1) = (E.length:Int) + 1:=by rw [IntKind.wrap_i64];omega
    have HT0:=Lib.hid (TermAt.term_none T 0 (.inl (by decide)) gs wr _ HI.out.1.st)
    clear HI hlt
    go_wp2_with fail
    refine HT0.out.mono ?_
    rintro e w3 ⟨rfl,hb⟩
    have HS3:=Lib.hid (HSr.out.below (bel_alloc hb (.cells #[.int .i64 0,.string ⟨#[]⟩,.string ⟨#[]⟩] 24)))
    have HT1:=Lib.hid (TermAt.term_none T ((E.length:Int) + 1) (.inr (by rw [← HEe.out];omega)) gs _ _ HS3.out.st)
    clear hb HT0 HSr
    dsimp only
    go_wp2_with fail
    refine HT1.out.mono ?_
    rintro e w4 ⟨rfl,hb⟩
    have HS4:=Lib.hid (HS3.out.below (bel_alloc hb (.cells #[.int .i64 0,.string ⟨#[]⟩,.string ⟨#[]⟩] 24)))
    have HRg:=Lib.hid (RingC.ring_calls T gs _ _ HS4.out.st)
    clear hb HT1 HS3 hw1
    dsimp only
    go_wp2_with fail
    refine HRg.out.mono ?_
    rintro e w5 ⟨⟨rg,rfl,hG⟩,hb⟩
    have HS5:=Lib.hid (HS4.out.below hb)
    have HG5:=Lib.hid hG
    clear hb HRg HS4 hG
    obtain ⟨A3,c3,hg3,hM3⟩:=HS5.out.rf.ids
    have HK3:Hid (∀ W,Below w5.heap.size w5 W → W.cell? ⟨gx,3,none⟩ = some (.slice A3 T.length c3)):=Lib.hid (fun W hb=>(hb.cell (p:=⟨gx,3,none⟩) (cell_lt hg3)).trans hg3)
    have HM3:=Lib.hid (fun W (hb:Below w5.heap.size w5 W)=>Kd.M_bound (Kd.M_below (Kd.M_bound hM3) hb))
    have HAl:=Lib.hid (fun W (hW:Below w5.heap.size w5 W)=>all_calls anyP (idsT T) (by rw [ids_len];exact hl) rg W _ (HG5.out.below hW))
    rw [filter_any] at HAl
    unfold patL anyP at HAl
    dsimp only at HAl
    have HEn:=Lib.hid (fun W (hW:Below w5.heap.size w5 W)=>encode_calls T HV.out hl gs W _ (HS5.out.below hW).st)
    have HRe:=Lib.hid (fun W (hW:Below w5.heap.size w5 W)=>RefEnc.refenc_calls T HV.out hl gx W _ (HS5.out.below hW).rf)
    have HSm8:=Lib.hid (fun A c W (hm:idsK.sl.M W (fun k=>k < W.heap.size) (idsT T) [.slice A (idsT T).length c]) (hb:Below w5.heap.size w5 W)=>same8_self (idsT T) A A3 c c3 W hm (by have h:=HM3.out W hb;rw [← HIl.out] at h;exact h) (by have:=HIl.out;omega))
    rw [HIl.out] at HAl HSm8
    obtain ⟨a,ha⟩:∃ a,a = encT T:=⟨_,rfl⟩
    rw [← ha] at HEn HRe
    have ta:=mkS_toList a
    have hqe:(a == a) = true:=by simp
    have hcur:=Below.refl w5.heap.size w5
    have k3:=HK3.out w5 hcur
    clear ha hg3 hM3 HM3 HIl HEe HEl HRise HIs hE300 HM5 HM1 HG1 hi HS2
    go_upto_region 15 with fail
    refine HeldZ.region (fun W=>W.cell? ⟨gx,3,none⟩ = some (Value.slice A3 T.length c3)) 29 30 #[false,false,false,false,false,false,false,false,false,false,false,false,false,false,false,false,false,false,false,false,false,false,false,false,false,false,false,false,false,false] (by kernel_rfl) rfl rfl ?_
    intro hinv
    have hcur:Below w5.heap.size w5 w5.drew:=bel_drew (Below.refl _ _)
    have hS:=HK3.out w5.drew hcur
    refine HeldZ.take (v:=?vq1_0) 0 hinv rfl (by kernel_rfl) (by kernel_rfl) (by decide) (by decide) (by kernel_rfl) (by kernel_rfl) (by kernel_rfl) (fun _ _ _ h=>h) hS (Or.inl ⟨by rfl,?hyq1_0⟩) ?_
    case hyq1_0=>(intro w hSw;(try dsimp only at hSw);go_simp;try with_reducible rfl)
    clear hinv
    intro hinv
    try simp only [List.getElem_toArray,List.getElem_cons_zero,List.getElem_cons_succ,Act.put,List.setIfInBounds_toArray,List.set_cons_zero,List.set_cons_succ] at hinv ⊢
    refine HeldZ.take (v:=?vq2_1) 1 hinv rfl (by kernel_rfl) (by kernel_rfl) (by decide) (by decide) (by kernel_rfl) (by kernel_rfl) (by kernel_rfl) (fun _ _ _ h=>h) hS (Or.inl ⟨by rfl,?hyq2_1⟩) ?_
    case hyq2_1=>(intro w hSw;(try dsimp only at hSw);go_simp;try with_reducible rfl)
    clear hinv
    intro hinv
    try simp only [List.getElem_toArray,List.getElem_cons_zero,List.getElem_cons_succ,Act.put,List.setIfInBounds_toArray,List.set_cons_zero,List.set_cons_succ] at hinv ⊢
    refine HeldZ.take (v:=?vq3_2) 2 hinv rfl (by kernel_rfl) (by kernel_rfl) (by decide) (by decide) (by kernel_rfl) (by kernel_rfl) (by kernel_rfl) (fun _ _ _ h=>h) hS (Or.inl ⟨by rfl,?hyq3_2⟩) ?_
    case hyq3_2=>(intro w hSw;(try dsimp only at hSw);go_simp;try with_reducible rfl)
    clear hinv
    intro hinv
    try simp only [List.getElem_toArray,List.getElem_cons_zero,List.getElem_cons_succ,Act.put,List.setIfInBounds_toArray,List.set_cons_zero,List.set_cons_succ] at hinv ⊢
    refine HeldZ.take (v:=?vq4_3) 3 hinv rfl (by kernel_rfl) (by kernel_rfl) (by decide) (by decide) (by kernel_rfl) (by kernel_rfl) (by kernel_rfl) (fun _ _ _ h=>h) hS (Or.inl ⟨by rfl,?hyq4_3⟩) ?_
    case hyq4_3=>(intro w hSw;(try dsimp only at hSw);go_simp;try with_reducible rfl)
    clear hinv
    intro hinv
    try simp only [List.getElem_toArray,List.getElem_cons_zero,List.getElem_cons_succ,Act.put,List.setIfInBounds_toArray,List.set_cons_zero,List.set_cons_succ] at hinv ⊢
    refine HeldZ.take (v:=?vq5_4) 4 hinv rfl (by kernel_rfl) (by kernel_rfl) (by decide) (by decide) (by kernel_rfl) (by kernel_rfl) (by kernel_rfl) (fun _ _ _ h=>h) hS (Or.inl ⟨by rfl,?hyq5_4⟩) ?_
    case hyq5_4=>(intro w hSw;(try dsimp only at hSw);go_simp;try with_reducible rfl)
    clear hinv
    intro hinv
    try simp only [List.getElem_toArray,List.getElem_cons_zero,List.getElem_cons_succ,Act.put,List.setIfInBounds_toArray,List.set_cons_zero,List.set_cons_succ] at hinv ⊢
    refine HeldZ.take (v:=?vq6_5) 5 hinv rfl (by kernel_rfl) (by kernel_rfl) (by decide) (by decide) (by kernel_rfl) (by kernel_rfl) (by kernel_rfl) (fun _ _ _ h=>h) hS (Or.inl ⟨by rfl,?hyq6_5⟩) ?_
    case hyq6_5=>(intro w hSw;(try dsimp only at hSw);go_simp;try with_reducible rfl)
    clear hinv
    intro hinv
    try simp only [List.getElem_toArray,List.getElem_cons_zero,List.getElem_cons_succ,Act.put,List.setIfInBounds_toArray,List.set_cons_zero,List.set_cons_succ] at hinv ⊢
    refine HeldZ.take (v:=?vq7_6) 6 hinv rfl (by kernel_rfl) (by kernel_rfl) (by decide) (by decide) (by kernel_rfl) (by kernel_rfl) (by kernel_rfl) (fun _ _ _ h=>h) hS (Or.inl ⟨by rfl,?hyq7_6⟩) ?_
    case hyq7_6=>(intro w hSw;(try dsimp only at hSw);go_simp;try with_reducible rfl)
    clear hinv
    intro hinv
    try simp only [List.getElem_toArray,List.getElem_cons_zero,List.getElem_cons_succ,Act.put,List.setIfInBounds_toArray,List.set_cons_zero,List.set_cons_succ] at hinv ⊢
    refine HeldZ.take (v:=?vq8_7) 7 hinv rfl (by kernel_rfl) (by kernel_rfl) (by decide) (by decide) (by kernel_rfl) (by kernel_rfl) (by kernel_rfl) (fun _ _ _ h=>h) hS (Or.inl ⟨by rfl,?hyq8_7⟩) ?_
    case hyq8_7=>(intro w hSw;(try dsimp only at hSw);go_simp;try with_reducible rfl)
    clear hinv
    intro hinv
    try simp only [List.getElem_toArray,List.getElem_cons_zero,List.getElem_cons_succ,Act.put,List.setIfInBounds_toArray,List.set_cons_zero,List.set_cons_succ] at hinv ⊢
    refine HeldZ.take (v:=?vq9_8) 8 hinv rfl (by kernel_rfl) (by kernel_rfl) (by decide) (by decide) (by kernel_rfl) (by kernel_rfl) (by kernel_rfl) (fun _ _ _ h=>h) hS (Or.inl ⟨by rfl,?hyq9_8⟩) ?_
    case hyq9_8=>(intro w hSw;(try dsimp only at hSw);go_simp;try with_reducible rfl)
    clear hinv
    intro hinv
    try simp only [List.getElem_toArray,List.getElem_cons_zero,List.getElem_cons_succ,Act.put,List.setIfInBounds_toArray,List.set_cons_zero,List.set_cons_succ] at hinv ⊢
    refine HeldZ.take (v:=?vq10_9) 9 hinv rfl (by kernel_rfl) (by kernel_rfl) (by decide) (by decide) (by kernel_rfl) (by kernel_rfl) (by kernel_rfl) (fun _ _ _ h=>h) hS (Or.inl ⟨by rfl,?hyq10_9⟩) ?_
    case hyq10_9=>(intro w hSw;(try dsimp only at hSw);go_simp;try with_reducible rfl)
    clear hinv
    intro hinv
    try simp only [List.getElem_toArray,List.getElem_cons_zero,List.getElem_cons_succ,Act.put,List.setIfInBounds_toArray,List.set_cons_zero,List.set_cons_succ] at hinv ⊢
    refine HeldZ.take (v:=?vq11_10) 10 hinv rfl (by kernel_rfl) (by kernel_rfl) (by decide) (by decide) (by kernel_rfl) (by kernel_rfl) (by kernel_rfl) (fun _ _ _ h=>h) hS (Or.inl ⟨by rfl,?hyq11_10⟩) ?_
    case hyq11_10=>(intro w hSw;(try dsimp only at hSw);go_simp;try with_reducible rfl)
    clear hinv
    intro hinv
    try simp only [List.getElem_toArray,List.getElem_cons_zero,List.getElem_cons_succ,Act.put,List.setIfInBounds_toArray,List.set_cons_zero,List.set_cons_succ] at hinv ⊢
    refine HeldZ.take (v:=?vq12_11) 11 hinv rfl (by kernel_rfl) (by kernel_rfl) (by decide) (by decide) (by kernel_rfl) (by kernel_rfl) (by kernel_rfl) (fun _ _ _ h=>h) hS (Or.inl ⟨by rfl,?hyq12_11⟩) ?_
    case hyq12_11=>(intro w hSw;(try dsimp only at hSw);go_simp;try with_reducible rfl)
    clear hinv
    intro hinv
    try simp only [List.getElem_toArray,List.getElem_cons_zero,List.getElem_cons_succ,Act.put,List.setIfInBounds_toArray,List.set_cons_zero,List.set_cons_succ] at hinv ⊢
    refine HeldZ.take (v:=?vq13_12) 12 hinv rfl (by kernel_rfl) (by kernel_rfl) (by decide) (by decide) (by kernel_rfl) (by kernel_rfl) (by kernel_rfl) (fun _ _ _ h=>h) hS (Or.inl ⟨by rfl,?hyq13_12⟩) ?_
    case hyq13_12=>(intro w hSw;(try dsimp only at hSw);go_simp;try with_reducible rfl)
    clear hinv
    intro hinv
    try simp only [List.getElem_toArray,List.getElem_cons_zero,List.getElem_cons_succ,Act.put,List.setIfInBounds_toArray,List.set_cons_zero,List.set_cons_succ] at hinv ⊢
    refine HeldZ.take (v:=?vq14_14) 14 hinv rfl (by kernel_rfl) (by kernel_rfl) (by decide) (by decide) (by kernel_rfl) (by kernel_rfl) (by kernel_rfl) (fun _ _ _ h=>h) hS (Or.inl ⟨by rfl,?hyq14_14⟩) ?_
    case hyq14_14=>(intro w hSw;(try dsimp only at hSw);go_simp;try with_reducible rfl)
    clear hinv
    intro hinv
    try simp only [List.getElem_toArray,List.getElem_cons_zero,List.getElem_cons_succ,Act.put,List.setIfInBounds_toArray,List.set_cons_zero,List.set_cons_succ] at hinv ⊢
    refine HeldZ.take (v:=?vq15_15) 15 hinv rfl (by kernel_rfl) (by kernel_rfl) (by decide) (by decide) (by kernel_rfl) (by kernel_rfl) (by kernel_rfl) (fun _ _ _ h=>h) hS (Or.inl ⟨by rfl,?hyq15_15⟩) ?_
    case hyq15_15=>(intro w hSw;(try dsimp only at hSw);go_simp;try with_reducible rfl)
    clear hinv
    intro hinv
    try simp only [List.getElem_toArray,List.getElem_cons_zero,List.getElem_cons_succ,Act.put,List.setIfInBounds_toArray,List.set_cons_zero,List.set_cons_succ] at hinv ⊢
    refine HeldZ.take (v:=?vq16_16) 16 hinv rfl (by kernel_rfl) (by kernel_rfl) (by decide) (by decide) (by kernel_rfl) (by kernel_rfl) (by kernel_rfl) (fun _ _ _ h=>h) hS (Or.inl ⟨by rfl,?hyq16_16⟩) ?_
    case hyq16_16=>(intro w hSw;(try dsimp only at hSw);go_simp;try with_reducible rfl)
    clear hinv
    intro hinv
    try simp only [List.getElem_toArray,List.getElem_cons_zero,List.getElem_cons_succ,Act.put,List.setIfInBounds_toArray,List.set_cons_zero,List.set_cons_succ] at hinv ⊢
    refine HeldZ.take (v:=?vq17_17) 17 hinv rfl (by kernel_rfl) (by kernel_rfl) (by decide) (by decide) (by kernel_rfl) (by kernel_rfl) (by kernel_rfl) (fun _ _ _ h=>h) hS (Or.inl ⟨by rfl,?hyq17_17⟩) ?_
    case hyq17_17=>(intro w hSw;(try dsimp only at hSw);go_simp;try with_reducible rfl)
    clear hinv
    intro hinv
    try simp only [List.getElem_toArray,List.getElem_cons_zero,List.getElem_cons_succ,Act.put,List.setIfInBounds_toArray,List.set_cons_zero,List.set_cons_succ] at hinv ⊢
    refine HeldZ.oneW 13 hinv (by kernel_rfl) rfl (by rfl) ?_
    clear hinv
    intro hinv K hK
    have hinv:=hinv (by decide)
    go_simp
    refine (HAl.out _ hcur).mono ?_
    rintro e w11 ⟨⟨A11,c11,rfl,hm11⟩,hbc⟩
    have HM11:=Lib.hid (Kd.M_bound hm11)
    have hcur:Below w5.heap.size w5 w11:=bel_step (by repeat (first | assumption | exact Below.refl _ _ | refine bel_drew ?_ | refine bel_alloc ?_ _)) hbc
    clear hS
    have hS:=HK3.out w11 hcur
    refine hK _ _ (fun _=>hS) ?_
    clear hK K
    try simp only [List.getElem_toArray,List.getElem_cons_zero,List.getElem_cons_succ,Act.put,List.setIfInBounds_toArray,List.set_cons_zero,List.set_cons_succ] at hinv ⊢
    refine HeldZ.oneW 18 hinv (by kernel_rfl) rfl (by rfl) ?_
    clear hinv
    intro hinv K hK
    have hinv:=hinv (by decide)
    go_simp
    refine (HSm8.out A11 c11 _ HM11.out hcur).mono ?_
    rintro e w12 ⟨rfl,hbc⟩
    have hcur:Below w5.heap.size w5 w12:=bel_step (by repeat (first | assumption | exact Below.refl _ _ | refine bel_drew ?_ | refine bel_alloc ?_ _)) hbc
    clear hS
    have hS:=HK3.out w12 hcur
    refine hK _ _ (fun _=>hS) ?_
    clear hK K
    try simp only [List.getElem_toArray,List.getElem_cons_zero,List.getElem_cons_succ,Act.put,List.setIfInBounds_toArray,List.set_cons_zero,List.set_cons_succ] at hinv ⊢
    refine HeldZ.take (v:=?vq18_19) 19 hinv rfl (by kernel_rfl) (by kernel_rfl) (by decide) (by decide) (by kernel_rfl) (by kernel_rfl) (by kernel_rfl) (fun _ _ _ h=>h) hS (Or.inl ⟨by rfl,?hyq18_19⟩) ?_
    case hyq18_19=>(intro w hSw;(try dsimp only at hSw);go_simp;try with_reducible rfl)
    clear hinv
    intro hinv
    try simp only [List.getElem_toArray,List.getElem_cons_zero,List.getElem_cons_succ,Act.put,List.setIfInBounds_toArray,List.set_cons_zero,List.set_cons_succ] at hinv ⊢
    refine HeldZ.take (v:=?vq19_20) 20 hinv rfl (by kernel_rfl) (by kernel_rfl) (by decide) (by decide) (by kernel_rfl) (by kernel_rfl) (by kernel_rfl) (fun _ _ _ h=>h) hS (Or.inl ⟨by rfl,?hyq19_20⟩) ?_
    case hyq19_20=>(intro w hSw;(try dsimp only at hSw);go_simp;try with_reducible rfl)
    clear hinv
    intro hinv
    try simp only [List.getElem_toArray,List.getElem_cons_zero,List.getElem_cons_succ,Act.put,List.setIfInBounds_toArray,List.set_cons_zero,List.set_cons_succ] at hinv ⊢
    refine HeldZ.take (v:=?vq20_21) 21 hinv rfl (by kernel_rfl) (by kernel_rfl) (by decide) (by decide) (by kernel_rfl) (by kernel_rfl) (by kernel_rfl) (fun _ _ _ h=>h) hS (Or.inl ⟨by rfl,?hyq20_21⟩) ?_
    case hyq20_21=>(intro w hSw;(try dsimp only at hSw);go_simp;try with_reducible rfl)
    clear hinv
    intro hinv
    try simp only [List.getElem_toArray,List.getElem_cons_zero,List.getElem_cons_succ,Act.put,List.setIfInBounds_toArray,List.set_cons_zero,List.set_cons_succ] at hinv ⊢
    refine HeldZ.take (v:=?vq21_24) 24 hinv rfl (by kernel_rfl) (by kernel_rfl) (by decide) (by decide) (by kernel_rfl) (by kernel_rfl) (by kernel_rfl) (fun _ _ _ h=>h) hS (Or.inl ⟨by rfl,?hyq21_24⟩) ?_
    case hyq21_24=>(intro w hSw;(try dsimp only at hSw);go_simp;try with_reducible rfl)
    clear hinv
    intro hinv
    try simp only [List.getElem_toArray,List.getElem_cons_zero,List.getElem_cons_succ,Act.put,List.setIfInBounds_toArray,List.set_cons_zero,List.set_cons_succ] at hinv ⊢
    refine HeldZ.oneW 22 hinv (by kernel_rfl) rfl (by rfl) ?_
    clear hinv
    intro hinv K hK
    have hinv:=hinv (by decide)
    go_simp
    refine (HEn.out _ hcur).mono ?_
    rintro e w13 ⟨⟨va,rfl,hoa⟩,hbc⟩
    have HMa:=Lib.hid (Kd.own_sl (ok:=fun _=>True) (ok':=fun _=>True) hoa (fun _ _=>trivial) (fun _ _=>trivial))
    obtain ⟨Aa,ca,rfl,_,_⟩:=Kd.own_slice hoa
    have hca:=conv_row HMa.out (Below.refl _ _)
    clear hoa
    have hcur:Below w5.heap.size w5 w13:=bel_step (by repeat (first | assumption | exact Below.refl _ _ | refine bel_drew ?_ | refine bel_alloc ?_ _)) hbc
    clear hS
    have hS:=HK3.out w13 hcur
    refine hK _ _ (fun _=>hS) ?_
    clear hK K
    try simp only [List.getElem_toArray,List.getElem_cons_zero,List.getElem_cons_succ,Act.put,List.setIfInBounds_toArray,List.set_cons_zero,List.set_cons_succ] at hinv ⊢
    refine HeldZ.twoW 23 25 hinv (by kernel_rfl) rfl (by rfl) rfl (by rfl) ?_ ?_
    ·
     clear hinv
     intro hinv K hK
     have hinv:=hinv (by decide)
     go_simp
     refine hK _ _ (fun _=>hS) ?_
     clear hK K
     try simp only [List.getElem_toArray,List.getElem_cons_zero,List.getElem_cons_succ,Act.put,List.setIfInBounds_toArray,List.set_cons_zero,List.set_cons_succ] at hinv ⊢
     refine HeldZ.oneW 25 hinv (by kernel_rfl) rfl (by rfl) ?_
     clear hinv
     intro hinv K hK
     have hinv:=hinv (by decide)
     go_simp
     refine (HRe.out _ hcur).mono ?_
     rintro e w14 ⟨⟨vb,rfl,hob⟩,hbc⟩
     have HMb:=Lib.hid (Kd.own_sl (ok:=fun _=>True) (ok':=fun _=>True) hob (fun _ _=>trivial) (fun _ _=>trivial))
     obtain ⟨Ab,cb,rfl,_,_⟩:=Kd.own_slice hob
     have hcb:=conv_row HMb.out (Below.refl _ _)
     clear hob
     have hca:=conv_row HMa.out hbc
     have hcur:Below w5.heap.size w5 w14:=bel_step (by repeat (first | assumption | exact Below.refl _ _ | refine bel_drew ?_ | refine bel_alloc ?_ _)) hbc
     clear hS
     have hS:=HK3.out w14 hcur
     refine hK _ _ (fun _=>hS) ?_
     clear hK K
     try simp only [List.getElem_toArray,List.getElem_cons_zero,List.getElem_cons_succ,Act.put,List.setIfInBounds_toArray,List.set_cons_zero,List.set_cons_succ] at hinv ⊢
     refine HeldZ.oneW 26 hinv (by kernel_rfl) rfl (by rfl) ?_
     clear hinv
     intro hinv K hK
     have hinv:=hinv (by decide)
     go_simp
     refine hK _ _ (fun _=>hS) ?_
     clear hK K
     try simp only [List.getElem_toArray,List.getElem_cons_zero,List.getElem_cons_succ,Act.put,List.setIfInBounds_toArray,List.set_cons_zero,List.set_cons_succ] at hinv ⊢
     refine HeldZ.take (v:=?vq22_27) 27 hinv rfl (by kernel_rfl) (by kernel_rfl) (by decide) (by decide) (by kernel_rfl) (by kernel_rfl) (by kernel_rfl) (fun _ _ _ h=>h) hS (Or.inl ⟨by rfl,?hyq22_27⟩) ?_
     case hyq22_27=>(intro w hSw;(try dsimp only at hSw);go_simp;try with_reducible rfl)
     clear hinv
     intro hinv
     try simp only [List.getElem_toArray,List.getElem_cons_zero,List.getElem_cons_succ,Act.put,List.setIfInBounds_toArray,List.set_cons_zero,List.set_cons_succ] at hinv ⊢
     refine HeldZ.take (v:=?vq23_28) 28 hinv rfl (by kernel_rfl) (by kernel_rfl) (by decide) (by decide) (by kernel_rfl) (by kernel_rfl) (by kernel_rfl) (fun _ _ _ h=>h) hS (Or.inl ⟨by rfl,?hyq23_28⟩) ?_
     case hyq23_28=>(intro w hSw;(try dsimp only at hSw);go_simp;try with_reducible rfl)
     clear hinv
     intro hinv
     try simp only [List.getElem_toArray,List.getElem_cons_zero,List.getElem_cons_succ,Act.put,List.setIfInBounds_toArray,List.set_cons_zero,List.set_cons_succ] at hinv ⊢
     refine HeldZ.oneW 29 hinv (by kernel_rfl) rfl (by rfl) ?_
     clear hinv
     intro _ K hK
     go_simp
     refine hK _ _ (fun h=>absurd rfl h) ?_
     refine HeldZ.done (by kernel_rfl) ?_ _
     have HBf:=Lib.hid (HS5.out.below hcur).bel
     clear hK K hS
     go_wp2
     go_ret
     exact ⟨rfl,HBf.out⟩
    ·
     clear hinv
     intro hinv K hK
     have hinv:=hinv (by decide)
     go_simp
     refine (HRe.out _ hcur).mono ?_
     rintro e w14 ⟨⟨vb,rfl,hob⟩,hbc⟩
     have HMb:=Lib.hid (Kd.own_sl (ok:=fun _=>True) (ok':=fun _=>True) hob (fun _ _=>trivial) (fun _ _=>trivial))
     obtain ⟨Ab,cb,rfl,_,_⟩:=Kd.own_slice hob
     have hcb:=conv_row HMb.out (Below.refl _ _)
     clear hob
     have hca:=conv_row HMa.out hbc
     have hcur:Below w5.heap.size w5 w14:=bel_step (by repeat (first | assumption | exact Below.refl _ _ | refine bel_drew ?_ | refine bel_alloc ?_ _)) hbc
     clear hS
     have hS:=HK3.out w14 hcur
     refine hK _ _ (fun _=>hS) ?_
     clear hK K
     try simp only [List.getElem_toArray,List.getElem_cons_zero,List.getElem_cons_succ,Act.put,List.setIfInBounds_toArray,List.set_cons_zero,List.set_cons_succ] at hinv ⊢
     refine HeldZ.twoW 23 26 hinv (by kernel_rfl) rfl (by rfl) rfl (by rfl) ?_ ?_
     ·
      clear hinv
      intro hinv K hK
      have hinv:=hinv (by decide)
      go_simp
      refine hK _ _ (fun _=>hS) ?_
      clear hK K
      try simp only [List.getElem_toArray,List.getElem_cons_zero,List.getElem_cons_succ,Act.put,List.setIfInBounds_toArray,List.set_cons_zero,List.set_cons_succ] at hinv ⊢
      refine HeldZ.oneW 26 hinv (by kernel_rfl) rfl (by rfl) ?_
      clear hinv
      intro hinv K hK
      have hinv:=hinv (by decide)
      go_simp
      refine hK _ _ (fun _=>hS) ?_
      clear hK K
      try simp only [List.getElem_toArray,List.getElem_cons_zero,List.getElem_cons_succ,Act.put,List.setIfInBounds_toArray,List.set_cons_zero,List.set_cons_succ] at hinv ⊢
      refine HeldZ.take (v:=?vq24_27) 27 hinv rfl (by kernel_rfl) (by kernel_rfl) (by decide) (by decide) (by kernel_rfl) (by kernel_rfl) (by kernel_rfl) (fun _ _ _ h=>h) hS (Or.inl ⟨by rfl,?hyq24_27⟩) ?_
      case hyq24_27=>(intro w hSw;(try dsimp only at hSw);go_simp;try with_reducible rfl)
      clear hinv
      intro hinv
      try simp only [List.getElem_toArray,List.getElem_cons_zero,List.getElem_cons_succ,Act.put,List.setIfInBounds_toArray,List.set_cons_zero,List.set_cons_succ] at hinv ⊢
      refine HeldZ.take (v:=?vq25_28) 28 hinv rfl (by kernel_rfl) (by kernel_rfl) (by decide) (by decide) (by kernel_rfl) (by kernel_rfl) (by kernel_rfl) (fun _ _ _ h=>h) hS (Or.inl ⟨by rfl,?hyq25_28⟩) ?_
      case hyq25_28=>(intro w hSw;(try dsimp only at hSw);go_simp;try with_reducible rfl)
      clear hinv
      intro hinv
      try simp only [List.getElem_toArray,List.getElem_cons_zero,List.getElem_cons_succ,Act.put,List.setIfInBounds_toArray,List.set_cons_zero,List.set_cons_succ] at hinv ⊢
      refine HeldZ.oneW 29 hinv (by kernel_rfl) rfl (by rfl) ?_
      clear hinv
      intro _ K hK
      go_simp
      refine hK _ _ (fun h=>absurd rfl h) ?_
      refine HeldZ.done (by kernel_rfl) ?_ _
      have HBf:=Lib.hid (HS5.out.below hcur).bel
      clear hK K hS
      go_wp2
      go_ret
      exact ⟨rfl,HBf.out⟩
     ·
      clear hinv
      intro hinv K hK
      have hinv:=hinv (by decide)
      go_simp
      refine hK _ _ (fun _=>hS) ?_
      clear hK K
      try simp only [List.getElem_toArray,List.getElem_cons_zero,List.getElem_cons_succ,Act.put,List.setIfInBounds_toArray,List.set_cons_zero,List.set_cons_succ] at hinv ⊢
      refine HeldZ.oneW 23 hinv (by kernel_rfl) rfl (by rfl) ?_
      clear hinv
      intro hinv K hK
      have hinv:=hinv (by decide)
      go_simp
      refine hK _ _ (fun _=>hS) ?_
      clear hK K
      try simp only [List.getElem_toArray,List.getElem_cons_zero,List.getElem_cons_succ,Act.put,List.setIfInBounds_toArray,List.set_cons_zero,List.set_cons_succ] at hinv ⊢
      refine HeldZ.take (v:=?vq26_27) 27 hinv rfl (by kernel_rfl) (by kernel_rfl) (by decide) (by decide) (by kernel_rfl) (by kernel_rfl) (by kernel_rfl) (fun _ _ _ h=>h) hS (Or.inl ⟨by rfl,?hyq26_27⟩) ?_
      case hyq26_27=>(intro w hSw;(try dsimp only at hSw);go_simp;try with_reducible rfl)
      clear hinv
      intro hinv
      try simp only [List.getElem_toArray,List.getElem_cons_zero,List.getElem_cons_succ,Act.put,List.setIfInBounds_toArray,List.set_cons_zero,List.set_cons_succ] at hinv ⊢
      refine HeldZ.take (v:=?vq27_28) 28 hinv rfl (by kernel_rfl) (by kernel_rfl) (by decide) (by decide) (by kernel_rfl) (by kernel_rfl) (by kernel_rfl) (fun _ _ _ h=>h) hS (Or.inl ⟨by rfl,?hyq27_28⟩) ?_
      case hyq27_28=>(intro w hSw;(try dsimp only at hSw);go_simp;try with_reducible rfl)
      clear hinv
      intro hinv
      try simp only [List.getElem_toArray,List.getElem_cons_zero,List.getElem_cons_succ,Act.put,List.setIfInBounds_toArray,List.set_cons_zero,List.set_cons_succ] at hinv ⊢
      refine HeldZ.oneW 29 hinv (by kernel_rfl) rfl (by rfl) ?_
      clear hinv
      intro _ K hK
      go_simp
      refine hK _ _ (fun h=>absurd rfl h) ?_
      refine HeldZ.done (by kernel_rfl) ?_ _
      have HBf:=Lib.hid (HS5.out.below hcur).bel
      clear hK K hS
      go_wp2
      go_ret
      exact ⟨rfl,HBf.out⟩
end Go.Proofs.YtnplommdgfgboaaGreatDoor.Alike
