/-
  Texts of the claim, one behind the other: Ref5b, Ref5c, Ref5d, Ref5e, Ref5f, Tc, Ref5g, Ref5h, Tri, TriEq, Show, Bw, QT, Show2.
-/
import Derived.Test.YtnplommdgfgboaaGreatDoorK2
import Derived.IntWalk
import Derived.Deep.CutBlock
import Derived.Deep.Strs
import Derived.OpenShut
import Derived.ChangeSame
import Derived.Laws.StructEq
import Derived.WalkKit
import Derived.RegionTactic
import Derived.StillTail
import Derived.Deep.QuietTactic
import Derived.BigQuiet
set_option linter.unusedVariables false
set_option linter.unusedSimpArgs false
namespace Go.Proofs.YtnplommdgfgboaaGreatDoor.Ref5
open Go.RowKit Go.Lib B Rd Utf TermPure LinesPure Tx
def hexR (n:Nat) (s:List UInt8):Int:=match hexGo n 0 s with
 | none=>-1
 | some (v,_)=>if Lib.validRune (v:Int) = true then (v:Int) else -1
theorem hexGo_short:∀ (n v:Nat) (l:List UInt8),l.length < n → hexGo n v l = none
 | 0,v,l,h=>by omega
 | n + 1,v,[],h=>rfl
 | n + 1,v,b :: l,h=>by
  rw [hexGo]
  cases hexV b with
  | none=>rfl
  | some d=>exact hexGo_short n _ l (by simp at h;omega)
theorem hexV_digit (b:UInt8) (h1:48 ≤ b.toNat) (h2:b.toNat ≤ 57):hexV b = some (b.toNat - 48):=by rw [hexV,if_pos ⟨h1,h2⟩]
theorem hexV_small (b:UInt8) (h1:97 ≤ b.toNat) (h2:b.toNat ≤ 102):hexV b = some (b.toNat - 87):=by rw [hexV,if_neg (by omega),if_pos ⟨h1,h2⟩]
theorem hexV_cap (b:UInt8) (h1:65 ≤ b.toNat) (h2:b.toNat ≤ 70):hexV b = some (b.toNat - 55):=by rw [hexV,if_neg (by omega),if_neg (by omega),if_pos ⟨h1,h2⟩]
theorem hexV_none (b:UInt8) (h1:¬ (48 ≤ b.toNat∧b.toNat ≤ 57)) (h2:¬ (97 ≤ b.toNat∧b.toNat ≤ 102)) (h3:¬ (65 ≤ b.toNat∧b.toNat ≤ 70)):hexV b = none:=by rw [hexV,if_neg h1,if_neg h2,if_neg h3]
theorem pow16 {k v:Nat} (hk:k ≤ 8) (h:v < 16 ^ k):v ≤ 4294967295:=by
 have:16 ^ k ≤ 16 ^ 8:=Nat.pow_le_pow_right (by omega) hk
 have e:16 ^ 8 = 4294967296:=by decide
 omega
theorem pow16_step {k v d:Nat} (h:v < 16 ^ k) (hd:d ≤ 15):v * 16 + d < 16 ^ (k + 1):=by
 rw [Nat.pow_succ]
 omega
set_option maxHeartbeats 1600000 in
theorem hex_calls (s:List UInt8) (n:Nat) (hn:n ≤ 8) (hs:s.length ≤ 70368744177664) (w:World) :
  Calls Tryz.prog 244 #[.string (mkS s),.int .i64 n] w fun e w'=>e = .returned (.int .i32 (hexR n s))∧w = w':=by
 have z:=mkS_size s
 by_cases hsh:s.length < n
 ·
  have hd:decide (s.length < n) = true:=decide_eq_true hsh
  have HR:Hid (hexR n s = -1):=Lib.hid (by rw [hexR,hexGo_short n 0 s hsh])
  go_enter Tryz.func244,Tryz.ntmps244
  go_wp2
  go_ret
  exact ⟨ret_int HR.out.symm,rfl⟩
 ·
  have hd:decide (s.length < n) = false:=decide_eq_false hsh
  go_enter Tryz.func244,Tryz.ntmps244
  go_wp2
  clear hd
  go_loopw [5,6] (fun vx vi wr=>∃ k v:Nat,k ≤ n∧vi = .int .i64 k∧vx = .int .i64 v∧wr = w∧Hid (v < 16 ^ k)∧Hid (hexGo n 0 s = hexGo (n - k) v (s.drop k))) (fun _ vi _=>n - (intOf vi).toNat)
  case atStart=>exact ⟨0,0,by omega,rfl,rfl,rfl,Lib.hid (by simp),Lib.hid (by simp)⟩
  case round =>
   obtain ⟨k,v,hk,rfl,rfl,rfl,HP,HG⟩:=hrel
   have hv:=pow16 (by omega) HP.out
   by_cases hlt:k < n
   ·
    have hd:decide (k < n) = true:=decide_eq_true hlt
    have ik:(k:Int) < (s.length:Int):=by omega
    have hlt':k < s.length:=by omega
    have ik0:(0:Int) ≤ (k:Int):=by omega
    obtain ⟨b,hb0⟩:∃ b,s[k] = b:=⟨_,rfl⟩
    have hks:k < (mkS s).size:=by rw [z];exact hlt'
    have hg:(mkS s)[k]'hks = b:=(Rd.mkS_get s k hks hlt').trans hb0
    have HD:Hid (s.drop k = b :: s.drop (k + 1)):=Lib.hid (by rw [List.drop_eq_getElem_cons hlt',hb0])
    have HS:Hid (∀ d:Nat,d ≤ 15 → hexV b = some d → v * 16 + d < 16 ^ (k + 1)∧hexGo n 0 s = hexGo (n - (k + 1)) (v * 16 + d) (s.drop (k + 1))):=Lib.hid (fun d h15 h=>by
     refine ⟨pow16_step HP.out h15,?_⟩
     rw [HG.out,HD.out,show n - k = (n - (k + 1)) + 1 from by omega,hexGo,h])
    have HN:Hid (hexV b = none → hexR n s = -1):=Lib.hid (fun h=>by
     rw [hexR,HG.out,HD.out,show n - k = (n - (k + 1)) + 1 from by omega,hexGo,h])
    have V1:=Lib.hid (hexV_digit b)
    have V2:=Lib.hid (hexV_small b)
    have V3:=Lib.hid (hexV_cap b)
    have V4:=Lib.hid (hexV_none b)
    have hB:=b.toNat_lt
    clear hb0 HD HP HG hsh
    by_cases d1:48 ≤ b.toNat∧b.toNat ≤ 57
    ·
     obtain ⟨g1,g2⟩:=d1
     have e1:decide (48 ≤ (b.toNat:Int)) = true:=decide_eq_true (by omega)
     have e2:decide ((b.toNat:Int) ≤ 57) = true:=decide_eq_true (by omega)
     have i1:(48:Int) ≤ (b.toNat:Int):=by omega
     obtain ⟨s1,s2⟩:=HS.out (b.toNat - 48) (by omega) (V1.out g1 g2)
     have S1:=Lib.hid s1
     have S2:=Lib.hid s2
     clear s1 s2 HS HN
     go_wp2
     go_roundw
     case rel=>exact ⟨k + 1,v * 16 + (b.toNat - 48),by omega,by go_num,ret_i (by omega),by first | rfl | trivial,S1,S2⟩
     case measure=>simp [intOf];omega
    ·
     by_cases d2:97 ≤ b.toNat∧b.toNat ≤ 102
     ·
      obtain ⟨g1,g2⟩:=d2
      have e1:decide (48 ≤ (b.toNat:Int)) = true:=decide_eq_true (by omega)
      have e2:decide ((b.toNat:Int) ≤ 57) = false:=decide_eq_false (by omega)
      have e3:decide (97 ≤ (b.toNat:Int)) = true:=decide_eq_true (by omega)
      have e4:decide ((b.toNat:Int) ≤ 102) = true:=decide_eq_true (by omega)
      have i1:(97:Int) ≤ (b.toNat:Int):=by omega
      obtain ⟨s1,s2⟩:=HS.out (b.toNat - 87) (by omega) (V2.out g1 g2)
      have S1:=Lib.hid s1
      have S2:=Lib.hid s2
      clear s1 s2 HS HN
      go_wp2
      go_roundw
      case rel=>exact ⟨k + 1,v * 16 + (b.toNat - 87),by omega,by go_num,ret_i (by omega),by first | rfl | trivial,S1,S2⟩
      case measure=>simp [intOf];omega
     ·
      by_cases d3:65 ≤ b.toNat∧b.toNat ≤ 70
      ·
       obtain ⟨g1,g2⟩:=d3
       have e1:decide (48 ≤ (b.toNat:Int)) = true:=decide_eq_true (by omega)
       have e2:decide ((b.toNat:Int) ≤ 57) = false:=decide_eq_false (by omega)
       have e3:decide (97 ≤ (b.toNat:Int)) = false:=decide_eq_false (by omega)
       have e5:decide (65 ≤ (b.toNat:Int)) = true:=decide_eq_true (by omega)
       have e6:decide ((b.toNat:Int) ≤ 70) = true:=decide_eq_true (by omega)
       have i1:(65:Int) ≤ (b.toNat:Int):=by omega
       obtain ⟨s1,s2⟩:=HS.out (b.toNat - 55) (by omega) (V3.out g1 g2)
       have S1:=Lib.hid s1
       have S2:=Lib.hid s2
       clear s1 s2 HS HN
       go_wp2
       go_roundw
       case rel=>exact ⟨k + 1,v * 16 + (b.toNat - 55),by omega,by go_num,ret_i (by omega),by first | rfl | trivial,S1,S2⟩
       case measure=>simp [intOf];omega
      ·
       have HF:=Lib.hid (HN.out (V4.out d1 d2 d3))
       clear HS HN
       go_wp2
       all_goals first | omega | (go_ret;exact ⟨ret_int HF.out.symm,rfl⟩)
   ·
    obtain rfl:k = n:=by omega
    rw [Nat.sub_self,hexGo] at HG
    have hd:decide (k < k) = false:=decide_eq_false (by omega)
    have i1:(0:Int) ≤ (v:Int):=by omega
    have HF:Hid (hexR k s = if Lib.validRune (v:Int) = true then (v:Int) else -1):=Lib.hid (by rw [hexR,HG.out])
    have HV:Hid (Lib.validRune (v:Int) = decide ((0 ≤ (v:Int)∧(v:Int) < 55296) ∨ (57343 < (v:Int)∧(v:Int) ≤ 1114111))):=Lib.hid rfl
    clear HG HP hv
    by_cases c1:v ≤ 1114111
    ·
     have e1:decide (1114111 < (v:Int)) = false:=decide_eq_false (by omega)
     have i3:(v:Int) ≤ 1114111:=by omega
     by_cases c2:55296 ≤ v
     ·
      have e2:decide (55296 ≤ (v:Int)) = true:=decide_eq_true (by omega)
      by_cases c3:v ≤ 57343
      ·
       have e3:decide ((v:Int) ≤ 57343) = true:=decide_eq_true (by omega)
       have HF2:=Lib.hid (HF.out.trans (if_neg (by rw [HV.out,decide_eq_true_iff];omega)))
       go_wp2
       go_ret
       exact ⟨ret_int HF2.out.symm,rfl⟩
      ·
       have e3:decide ((v:Int) ≤ 57343) = false:=decide_eq_false (by omega)
       have HF2:=Lib.hid (HF.out.trans (if_pos (by rw [HV.out,decide_eq_true_iff];omega)))
       go_wp2
       go_ret
       exact ⟨ret_int HF2.out.symm,rfl⟩
     ·
      have e2:decide (55296 ≤ (v:Int)) = false:=decide_eq_false (by omega)
      have HF2:=Lib.hid (HF.out.trans (if_pos (by rw [HV.out,decide_eq_true_iff];omega)))
      go_wp2
      go_ret
      exact ⟨ret_int HF2.out.symm,rfl⟩
    ·
     have e1:decide (1114111 < (v:Int)) = true:=decide_eq_true (by omega)
     have HF2:=Lib.hid (HF.out.trans (if_neg (by rw [HV.out,decide_eq_true_iff];omega)))
     go_wp2
     go_ret
     exact ⟨ret_int HF2.out.symm,rfl⟩
def EscIs (lit:Bool) (s o:List UInt8) (n:Nat):Prop:=(n = 0∧o = []∧esc lit s = none) ∨ (0 < n∧n ≤ s.length∧esc lit s = some (o,s.drop n)∧o.length ≤ n)
theorem rune_cases (n:Nat) (t:List UInt8):(hexR n t = -1∧rune (hexGo n 0 t) = none) ∨ (∃ v:Nat,hexR n t = (v:Int)∧Lib.validRune (v:Int) = true∧n ≤ t.length∧rune (hexGo n 0 t) = some (encodeRune (v:Int),t.drop n)):=by
 unfold hexR
 cases h:hexGo n 0 t with
 | none=>exact .inl ⟨rfl,rfl⟩
 | some p =>
  obtain ⟨v,r⟩:=p
  obtain ⟨rfl,h2⟩:=hexGo_rest n 0 t v r h
  dsimp only
  by_cases hv:Lib.validRune (v:Int) = true
  ·
   right
   exact ⟨v,by rw [if_pos hv],hv,h2,by rw [rune,if_pos hv]⟩
  ·
   left
   exact ⟨by rw [if_neg hv],by rw [rune,if_neg hv]⟩
def escF:List UInt8:=[34,92,110,114,116,98,102,39]
def escT:List UInt8:=[34,92,10,13,9,8,12,39]
theorem escV_at:∀ k:Nat,(h:k < 8) → escV (escF[k]'h) = some (escT[k]'h):=by decide
theorem escV_not (b:UInt8) (h:∀ k:Nat,(hk:k < 8) → escF[k]'hk ≠ b):escV b = none:=by
 have h0:=h 0 (by decide);have h1:=h 1 (by decide);have h2:=h 2 (by decide);have h3:=h 3 (by decide)
 have h4:=h 4 (by decide);have h5:=h 5 (by decide);have h6:=h 6 (by decide);have h7:=h 7 (by decide)
 simp [escF] at h0 h1 h2 h3 h4 h5 h6 h7
 unfold escV
 rw [if_neg (fun e=>h4 e.symm),if_neg (fun e=>h5 e.symm),if_neg (fun e=>h2 e.symm),if_neg (fun e=>h3 e.symm),if_neg (fun e=>h6 e.symm),if_neg (fun e=>h0 e.symm),if_neg (fun e=>h7 e.symm),if_neg (fun e=>h1 e.symm)]
theorem esc_nil_calls (lit:Bool) (w:World) :
  Calls Tryz.prog 218 #[.string (mkS []),.bool lit] w fun e w'=>e = .returned (.tuple #[.string (mkS []),.int .i64 0])∧w = w':=by
 have z1:(mkS ([]:List UInt8)).toList = []:=mkS_toList []
 go_enter Tryz.func218,Tryz.ntmps218
 go_wp2
 go_ret2
 exact ⟨rfl,rfl⟩
set_option maxRecDepth 100000 in
set_option maxHeartbeats 1600000 in
theorem esc_num_calls (b:UInt8) (t:List UInt8) (n:Nat) (hb:b.toNat = 117∧n = 4 ∨ b.toNat = 85∧n = 8) (lit:Bool) (hs:t.length ≤ 70368744177663) (w:World) :
  Calls Tryz.prog 218 #[.string (mkS (b :: t)),.bool lit] w fun e w'=>(∃ (o:List UInt8) (n:Nat),e = .returned (.tuple #[.string (mkS o),.int .i64 n])∧EscIs lit (b :: t) o n)∧Below w.heap.size w w':=by
 have HE:Hid (esc lit (b :: t) = rune (hexGo n 0 t)):=Lib.hid (by
  rcases hb with ⟨h,rfl⟩ | ⟨h,rfl⟩
  ·
   rw [show b = 117 from UInt8.toNat_inj.1 h];rfl
  ·
   rw [show b = 85 from UInt8.toNat_inj.1 h];rfl)
 have z1:(mkS (b :: t)).toList = b :: t:=mkS_toList _
 have z:=mkS_size (b :: t)
 have hk:0 < (mkS (b :: t)).size:=by rw [z];simp
 have hg:(mkS (b :: t))[0]'hk = b:=rfl
 have hx:(mkS (b :: t)).extract 1 (b :: t).length = mkS t:=by rw [mkS_extract];simp
 have hn:(1:Int) ≤ ((b :: t).length:Int):=by simp;omega
 have hE:(b :: t).isEmpty = false:=rfl
 have HL:Hid ((b :: t).length = t.length + 1):=Lib.hid rfl
 generalize hL:(b :: t:List UInt8) = L at *
 have HB1:=Lib.hid hL
 clear hL
 have RC:=rune_cases n t
 rcases hb with ⟨h,rfl⟩ | ⟨h,rfl⟩
 ·
  have e1:((b.toNat:Int) == 117) = true:=by rw [beq_iff_eq];omega
  have e2:((b.toNat:Int) == 85) = false:=by rw [beq_eq_false_iff_ne];omega
  clear h
  rcases RC with ⟨r1,r2⟩ | ⟨v,r1,r2,r3,r4⟩
  ·
   have R1:=Lib.hid r1
   have R2:=Lib.hid (HE.out.trans r2)
   clear r1 r2
   go_enter Tryz.func218,Tryz.ntmps218
   go_wp2_with fail
   refine (hex_calls t 4 (by omega) (by omega) _).mono ?_
   rintro e w1 ⟨rfl,rfl⟩
   rw [R1.out]
   go_wp2
   go_ret2
   exact ⟨⟨[],0,rfl,.inl ⟨rfl,rfl,R2.out⟩⟩,Below.refl _ _⟩
  ·
   have R1:=Lib.hid r1
   have R2:=Lib.hid (HE.out.trans r4)
   have R3:=Lib.hid r3
   have hv0:(0:Int) ≤ (v:Int):=by omega
   have hdl:decide ((v:Int) < 0) = false:=decide_eq_false (by omega)
   have hcv:=fun W:World=>conv_rune v r2 W
   clear r1 r2 r3 r4
   go_enter Tryz.func218,Tryz.ntmps218
   go_wp2_with fail
   refine (hex_calls t 4 (by omega) (by omega) _).mono ?_
   rintro e w1 ⟨rfl,rfl⟩
   rw [R1.out]
   go_wp2
   go_ret2
   exact ⟨⟨encodeRune (v:Int),5,rfl,.inr ⟨by omega,by rw [HL.out];have:=R3.out;omega,by rw [R2.out,← HB1.out];rfl,Nat.le_trans (encodeRune_len _) (by omega)⟩⟩,(Below.refl _ _).alloc (Nat.le_refl _) _⟩
 ·
  have e1:((b.toNat:Int) == 117) = false:=by rw [beq_eq_false_iff_ne];omega
  have e2:((b.toNat:Int) == 85) = true:=by rw [beq_iff_eq];omega
  clear h
  rcases RC with ⟨r1,r2⟩ | ⟨v,r1,r2,r3,r4⟩
  ·
   have R1:=Lib.hid r1
   have R2:=Lib.hid (HE.out.trans r2)
   clear r1 r2
   go_enter Tryz.func218,Tryz.ntmps218
   go_wp2_with fail
   refine (hex_calls t 8 (by omega) (by omega) _).mono ?_
   rintro e w1 ⟨rfl,rfl⟩
   rw [R1.out]
   go_wp2
   go_ret2
   exact ⟨⟨[],0,rfl,.inl ⟨rfl,rfl,R2.out⟩⟩,Below.refl _ _⟩
  ·
   have R1:=Lib.hid r1
   have R2:=Lib.hid (HE.out.trans r4)
   have R3:=Lib.hid r3
   have hv0:(0:Int) ≤ (v:Int):=by omega
   have hdl:decide ((v:Int) < 0) = false:=decide_eq_false (by omega)
   have hcv:=fun W:World=>conv_rune v r2 W
   clear r1 r2 r3 r4
   go_enter Tryz.func218,Tryz.ntmps218
   go_wp2_with fail
   refine (hex_calls t 8 (by omega) (by omega) _).mono ?_
   rintro e w1 ⟨rfl,rfl⟩
   rw [R1.out]
   go_wp2
   go_ret2
   exact ⟨⟨encodeRune (v:Int),9,rfl,.inr ⟨by omega,by rw [HL.out];have:=R3.out;omega,by rw [R2.out,← HB1.out];rfl,Nat.le_trans (encodeRune_len _) (by omega)⟩⟩,(Below.refl _ _).alloc (Nat.le_refl _) _⟩
theorem esc_other (b:UInt8) (t:List UInt8) (lit:Bool) (h1:b.toNat ≠ 117) (h2:b.toNat ≠ 85):esc lit (b :: t) = if lit then (match escV b with
   | some c=>some ([c],t)
   | none=>none) else none:=by
 rw [esc,if_neg (fun e=>h1 (by rw [e];rfl)),if_neg (fun e=>h2 (by rw [e];rfl))]
 try rfl
set_option maxRecDepth 100000 in
set_option maxHeartbeats 1600000 in
theorem esc_sign_calls (b:UInt8) (t:List UInt8) (h1:b.toNat ≠ 117) (h2:b.toNat ≠ 85) (lit:Bool) (hs:t.length ≤ 70368744177663) (w:World) :
  Calls Tryz.prog 218 #[.string (mkS (b :: t)),.bool lit] w fun e w'=>(∃ (o:List UInt8) (n:Nat),e = .returned (.tuple #[.string (mkS o),.int .i64 n])∧EscIs lit (b :: t) o n)∧Below w.heap.size w w':=by
 have HE:=Lib.hid (esc_other b t lit h1 h2)
 have z1:(mkS (b :: t)).toList = b :: t:=mkS_toList _
 have z:=mkS_size (b :: t)
 have hk:0 < (mkS (b :: t)).size:=by rw [z];simp
 have hg:(mkS (b :: t))[0]'hk = b:=rfl
 have hn:(1:Int) ≤ ((b :: t).length:Int):=by simp;omega
 have hE:(b :: t).isEmpty = false:=rfl
 have HL:Hid ((b :: t).length = t.length + 1):=Lib.hid rfl
 have e1:((b.toNat:Int) == 117) = false:=by rw [beq_eq_false_iff_ne];omega
 have e2:((b.toNat:Int) == 85) = false:=by rw [beq_eq_false_iff_ne];omega
 have HT:Hid (t = (b :: t).drop 1):=Lib.hid rfl
 generalize hL:(b :: t:List UInt8) = L at *
 clear h1 h2 hL
 cases lit with
 | false =>
  have HN:Hid (esc false L = none):=HE
  clear HE
  go_enter Tryz.func218,Tryz.ntmps218
  go_wp2
  go_loopw [10] (fun vi wr=>vi = .int .i64 0∧wr = w) (fun _ _=>0)
  case atStart=>exact ⟨rfl,rfl⟩
  case round =>
   obtain ⟨rfl,rfl⟩:=hrel
   go_wp2
   go_ret2
   exact ⟨⟨[],0,rfl,.inl ⟨rfl,rfl,HN.out⟩⟩,Below.refl _ _⟩
 | true =>
  go_enter Tryz.func218,Tryz.ntmps218
  go_wp2
  go_loopw [10] (fun vi wr=>∃ k:Nat,k ≤ 8∧vi = .int .i64 k∧Hid (Below w.heap.size w wr)∧Hid (∀ j:Nat,(hj:j < 8) → j < k → escF[j]'hj ≠ b)) (fun vi _=>8 - (intOf vi).toNat)
  case atStart=>exact ⟨0,by omega,rfl,Lib.hid (Below.refl _ _),Lib.hid (fun j hj h=>by omega)⟩
  case round =>
   obtain ⟨k,hk8,rfl,HW,HF⟩:=hrel
   by_cases hlt:k < 8
   ·
    have hd:decide ((k:Int) < 8) = true:=decide_eq_true (by omega)
    have ik:(k:Int) < 8:=by omega
    have ik0:(0:Int) ≤ (k:Int):=by omega
    generalize hFF:({ data:=#[34,92,110,114,116,98,102,39] }:ByteArray) = F
    generalize hTT:({ data:=#[34,92,10,13,9,8,12,39] }:ByteArray) = T
    have hFe:F = mkS escF:=hFF.symm
    have hTe:T = mkS escT:=hTT.symm
    have zF:F.size = 8:=by rw [hFe];rfl
    have zT:T.size = 8:=by rw [hTe];rfl
    have hkF:k < F.size:=by omega
    have hgF0:F[k]'hkF = escF[k]'hlt:=by subst hFe;rfl
    obtain ⟨f,hf⟩:∃ f,escF[k]'hlt = f:=⟨_,rfl⟩
    have hgF:F[k]'hkF = f:=hgF0.trans hf
    have HX:Hid (T.extract k (k + 1) = mkS [escT[k]'hlt]):=Lib.hid (by
     rw [hTe,mkS_extract]
     congr 1
     rw [show k + 1 - k = 1 from by omega,List.drop_eq_getElem_cons hlt]
     rfl)
    have HV:=Lib.hid (escV_at k hlt)
    rw [hf] at HV
    have HF1:Hid (f ≠ b → ∀ j:Nat,(hj:j < 8) → j < k + 1 → escF[j]'hj ≠ b):=Lib.hid (fun hne j hj h=>by
     by_cases e:j = k
     ·
      subst e
      rw [hf]
      exact hne
     ·
      exact HF.out j hj (by omega))
    clear hFF hTT hFe hTe hgF0 hf HF
    have zs:(0:Int) < (L.length:Int):=by omega
    by_cases hbf:f = b
    ·
     subst hbf
     go_wp2
     go_quiet (fail)
     go_wp2
     go_ret2
     exact ⟨⟨[escT[k]'hlt],1,by rw [HX.out];rfl,.inr ⟨by omega,by omega,by rw [HE.out,HV.out,HT.out];rfl,by simp⟩⟩,bel_drewN HW.out _⟩
    ·
     have hbi:((b.toNat:Int) == (f.toNat:Int)) = false:=by
      rw [beq_eq_false_iff_ne]
      intro e
      exact hbf (UInt8.toNat_inj.1 (by omega))
     have HF2:=Lib.hid (HF1.out hbf)
     clear hbf HF1
     go_wp2
     go_quiet (fail)
     go_wp2
     go_roundw
     case rel=>exact ⟨k + 1,by omega,by go_num,Lib.hid (bel_drewN HW.out _),HF2⟩
     case measure=>simp [intOf];omega
   ·
    obtain rfl:k = 8:=by omega
    have HN:Hid (esc true L = none):=Lib.hid (by
     rw [HE.out,escV_not b (fun j hj=>HF.out j hj hj)]
     rfl)
    go_wp2
    go_ret2
    exact ⟨⟨[],0,rfl,.inl ⟨rfl,rfl,HN.out⟩⟩,HW.out⟩
end Go.Proofs.YtnplommdgfgboaaGreatDoor.Ref5
namespace Go.Proofs.YtnplommdgfgboaaGreatDoor.Ref5
open Go.RowKit Go.Lib B Rd Utf TermPure LinesPure Tx
theorem esc_calls (s:List UInt8) (lit:Bool) (hs:s.length ≤ 70368744177663) (w:World) :
  Calls Tryz.prog 218 #[.string (mkS s),.bool lit] w fun e w'=>(∃ (o:List UInt8) (n:Nat),e = .returned (.tuple #[.string (mkS o),.int .i64 n])∧EscIs lit s o n)∧Below w.heap.size w w':=by
 cases s with
 | nil=>exact (esc_nil_calls lit w).mono fun e w' ⟨h1,h2⟩=>by subst h2;exact ⟨⟨[],0,h1,.inl ⟨rfl,rfl,rfl⟩⟩,Below.refl _ _⟩
 | cons b t =>
  simp at hs
  by_cases h1:b.toNat = 117
  ·
   exact esc_num_calls b t 4 (.inl ⟨h1,rfl⟩) lit (by omega) w
  ·
   by_cases h2:b.toNat = 85
   ·
    exact esc_num_calls b t 8 (.inr ⟨h2,rfl⟩) lit (by omega) w
   ·
    exact esc_sign_calls b t h1 h2 lit (by omega) w
def UpPost (w:World) (rb:Nat) (bad:Bool) (r:Option (List UInt8 × List UInt8)) (e:Ending) (w':World):Prop:=match r with
 | none=>e = .returned (.string (mkS []))∧Step w w' rb [] true
 | some (o,t)=>e = .returned (.string (mkS o))∧Step w w' rb t bad
set_option maxRecDepth 100000 in
set_option maxHeartbeats 3200000 in
theorem upTo_calls (rb:Nat) (s:List UInt8) (bad lit:Bool) (stop:UInt8) (w:World) (h:At w rb s bad) :
  Calls Tryz.prog 187 #[.pointer (some ⟨rb,0,none⟩),.int .u8 stop.toNat,.bool lit] w fun e w'=>UpPost w rb bad (up stop lit true s) e w':=by
 have HS0:=Lib.hid (Step.refl h)
 have z:=mkS_size s
 clear h
 go_enter Tryz.func187,Tryz.ntmps187
 go_wp2
 go_loopg [7,8] (s.length + 1) (fun n v7 v8 wr=>∃ (k:Nat) (out:List UInt8),k ≤ s.length∧Hid (n = s.length + 1 - k)∧v8 = .int .i64 k∧v7 = .string (mkS out)∧out.length ≤ k∧Hid (Step w wr rb s bad)∧Hid (up stop lit true s = (up stop lit true (s.drop k)).map (fun x=>(out ++ x.1,x.2))))
 case atStart=>exact ⟨0,[],by omega,Lib.hid (by simp),rfl,rfl,by simp,HS0,Lib.hid (by simp)⟩
 case round =>
  obtain ⟨k,out,hk,HN,rfl,rfl,ho,HS,HU⟩:=hrel
  obtain ⟨c0,c1,f0,f1,len⟩:=HS.out.at'
  have ik0:(0:Int) ≤ (k:Int):=by omega
  have zo:=mkS_size out
  by_cases hlt:k < s.length
  ·
   have hd:decide (k < s.length) = true:=decide_eq_true hlt
   have ik:(k:Int) < (s.length:Int):=by omega
   have ik2:(k:Int) + 1 ≤ (s.length:Int):=by omega
   obtain ⟨b,hb0⟩:∃ b,s[k] = b:=⟨_,rfl⟩
   have hks:k < (mkS s).size:=by rw [z];exact hlt
   have hg:(mkS s)[k]'hks = b:=(Rd.mkS_get s k hks hlt).trans hb0
   have HD:Hid (s.drop k = b :: s.drop (k + 1)):=Lib.hid (by rw [List.drop_eq_getElem_cons hlt,hb0])
   have HX:Hid ((mkS s).extract (k + 1) s.length = mkS (s.drop (k + 1))):=Lib.hid (by rw [mkS_extract,List.take_of_length_le (by simp)])
   have HY:Hid ((mkS s).extract k (k + 1) = mkS [b]):=Lib.hid (by
    rw [mkS_extract,show k + 1 - k = 1 from by omega,HD.out]
    rfl)
   have HDL:Hid ((s.drop (k + 1)).length = s.length - (k + 1)):=Lib.hid (by simp)
   rw [HD.out] at HU
   clear hb0 HD
   by_cases b1:b = stop
   ·
    subst b1
    have HR:=Lib.hid (HU.out.trans (by rw [up_stop]))
    clear HU
    go_wp2
    go_ret
    rw [HR.out]
    exact ⟨(ret_str (by rw [List.append_nil]):Ending.returned (.string (mkS out)) = .returned (.string (mkS (out ++ [])))),by rw [HX.out];exact HS.out.set0 (by rw [HDL.out];omega)⟩
   ·
    have e1:((b.toNat:Int) == (stop.toNat:Int)) = false:=by
     rw [beq_eq_false_iff_ne]
     intro e
     exact b1 (UInt8.toNat_inj.1 (by omega))
    by_cases b2:b = 92
    ·
     have e2:((b.toNat:Int) == 92) = true:=by rw [beq_iff_eq,b2];rfl
     have HE0:=Lib.hid (up_esc_none stop lit true b (s.drop (k + 1)) b1 b2)
     have HE1:=Lib.hid (fun o r=>up_esc stop lit true b (s.drop (k + 1)) o r b1 b2)
     clear b1 b2
     go_wp2_with fail
     rw [HX.out]
     refine (esc_calls (s.drop (k + 1)) lit (by rw [HDL.out];omega) _).mono ?_
     rintro e w1 ⟨⟨o,n,rfl,he⟩,hb1⟩
     have HS1:=Lib.hid (HS.out.below hb1)
     clear c0 c1 f0 f1 HS hb1
     obtain ⟨c0,c1,f0,f1,_⟩:=HS1.out.at'
     rcases he with ⟨rfl,rfl,he⟩ | ⟨hn1,hn2,he,hol⟩
     ·
      have HR:=Lib.hid (HU.out.trans (by rw [HE0.out he]))
      clear he HU
      go_wp2_with fail
      refine (fail_calls rb s bad _ HS1.out.at').mono ?_
      rintro e w2 ⟨rfl,hs2⟩
      have HS2:=Lib.hid (HS1.out.trans hs2)
      clear hs2
      go_wp2
      go_ret
      rw [HR.out]
      exact ⟨rfl,HS2.out⟩
     ·
      have HR:=Lib.hid (HU.out.trans (by rw [HE1.out o _ he]))
      rw [HDL.out] at hn2
      clear he HU
      have hn0:((n:Int) == 0) = false:=by rw [beq_eq_false_iff_ne];omega
      have zo2:=mkS_size o
      have HO:=Lib.hid (mkS_append out o)
      have i5:(n:Int) + (k:Int) + 1 ≤ (s.length:Int):=by omega
      go_wp2
      go_roundg (s.length + 1 - (k + n + 1))
      case measure=>have:=HN.out;omega
      case rel=>exact ⟨k + n + 1,out ++ o,by omega,Lib.hid rfl,by go_num,by rw [HO.out],by simp;omega,HS1,Lib.hid (by
       rw [HR.out,List.drop_drop,Option.map_map,show k + 1 + n = k + n + 1 from by omega]
       congr 1
       funext x
       simp)⟩
    ·
     have e2:((b.toNat:Int) == 92) = false:=by
      rw [beq_eq_false_iff_ne]
      intro e
      exact b2 (UInt8.toNat_inj.1 (by show b.toNat = 92;omega))
     by_cases b3:b = 10 ∨ b = 13
     ·
      have HR:=Lib.hid (HU.out.trans (by rw [up_line stop lit true b _ b1 b2 ⟨rfl,b3⟩]))
      clear HU
      have h3:((b.toNat:Int) == 10) = true ∨ ((b.toNat:Int) == 10) = false∧((b.toNat:Int) == 13) = true:=by
       rcases b3 with rfl | rfl
       ·
        exact .inl rfl
       ·
        exact .inr ⟨rfl,rfl⟩
      clear b1 b2 b3
      rcases h3 with h3 | ⟨h3,h4⟩
      all_goals
       go_wp2_with fail
       refine (fail_calls rb s bad _ HS.out.at').mono ?_
       rintro e w2 ⟨rfl,hs2⟩
       have HS2:=Lib.hid (HS.out.trans hs2)
       clear hs2
       go_wp2
       go_ret
       rw [HR.out]
       exact ⟨rfl,HS2.out⟩
     ·
      have HR:=Lib.hid (HU.out.trans (by rw [up_other stop lit true b _ b1 b2 (fun h=>b3 h.2)]))
      have h3:((b.toNat:Int) == 10) = false:=by
       rw [beq_eq_false_iff_ne]
       intro e
       exact b3 (.inl (UInt8.toNat_inj.1 (by show b.toNat = 10;omega)))
      have h4:((b.toNat:Int) == 13) = false:=by
       rw [beq_eq_false_iff_ne]
       intro e
       exact b3 (.inr (UInt8.toNat_inj.1 (by show b.toNat = 13;omega)))
      have HO:=Lib.hid (mkS_append out [b])
      have zx:((mkS s).extract k (k + 1)).size = 1:=by rw [HY.out];rfl
      clear HU b1 b2 b3
      go_wp2
      go_roundg (s.length + 1 - (k + 1))
      case measure=>have:=HN.out;omega
      case rel=>exact ⟨k + 1,out ++ [b],by omega,Lib.hid rfl,by go_num,by rw [HY.out,HO.out],by simp;omega,HS,Lib.hid (by
       rw [HR.out,Option.map_map]
       congr 1
       funext x
       simp)⟩
  ·
   obtain rfl:k = s.length:=by omega
   have HR:=Lib.hid (HU.out.trans (by rw [List.drop_length,up_nil]))
   clear HU
   go_wp2_with fail
   refine (fail_calls rb s bad _ HS.out.at').mono ?_
   rintro e w2 ⟨rfl,hs2⟩
   have HS2:=Lib.hid (HS.out.trans hs2)
   clear hs2
   go_wp2
   go_ret
   rw [HR.out]
   exact ⟨rfl,HS2.out⟩
end Go.Proofs.YtnplommdgfgboaaGreatDoor.Ref5
namespace Go.Proofs.YtnplommdgfgboaaGreatDoor.Ref5
open Go.RowKit Go.Lib B Rd Utf TermPure LinesPure Tx Env
theorem isIRI_no (s:List UInt8) (h:validD s = false ∨ s = [] ∨ 60 < s.length):isIRI s = false:=by
 unfold isIRI
 rcases h with h | h | h
 ·
  rw [h];simp
 ·
  subst h;rfl
 ·
  rw [decide_eq_false (by omega:¬ s.length ≤ 60)];simp
theorem isIRI_runes (s:List UInt8) (h:validD s = true) (h1:s ≠ []) (h2:s.length ≤ 60):isIRI s = (runes s).all iriRune:=by
 unfold isIRI
 rw [h,decide_eq_true h1,decide_eq_true h2]
 simp
theorem decodeL_rune_le (l:List UInt8):(decodeL l).1 ≤ 1114111:=by
 have:=Lib.rune_le (mkS l) 0
 rw [← decodeL_drop (mkS l) 0] at this
 exact this
theorem runesGo_le:∀ (f:Nat) (l:List UInt8),∀ c ∈ runesGo f l,c ≤ 1114111
 | 0,l,c,h=>by rw [runesGo] at h;cases h
 | f + 1,l,c,h=>by
  rw [runesGo] at h
  split at h
  ·
   cases h
  ·
   rcases List.mem_cons.1 h with rfl | h
   ·
    exact decodeL_rune_le l
   ·
    exact runesGo_le f _ c h
set_option maxRecDepth 100000 in
set_option maxHeartbeats 1600000 in
theorem isIRI_calls (s:List UInt8) (hs:s.length ≤ 140737488355328) (w:World) (he:Env w) :
  Calls Tryz.prog 124 #[.string (mkS s)] w fun e w'=>e = .returned (.bool (isIRI s))∧Below w.heap.size w w':=by
 have z:=mkS_size s
 have HE:=Lib.hid he
 have hn:=isIRI_no s
 have hr:=isIRI_runes s
 have HN:=Lib.hid hn
 have HR:=Lib.hid hr
 clear hn hr he
 go_enter Tryz.func124,Tryz.ntmps124
 go_wp2_with fail
 refine (valid_calls s (by omega) _ HE.out).mono ?_
 rintro e w1 ⟨rfl,hb1⟩
 have HB1:=Lib.hid hb1
 clear hb1
 cases hv:validD s with
 | false =>
  have HF:=Lib.hid (HN.out (.inl hv))
  clear hv
  go_wp2
  go_ret
  exact ⟨ret_bool HF.out.symm,HB1.out⟩
 | true =>
  by_cases h1:s = []
  ·
   have HF:=Lib.hid (HN.out (.inr (.inl h1)))
   have hl:decide ((s.length:Int) < 1) = true:=decide_eq_true (by rw [h1];decide)
   clear hv h1
   go_wp2
   go_ret
   exact ⟨ret_bool HF.out.symm,HB1.out⟩
  ·
   have hl0:0 < s.length:=List.length_pos_iff.2 h1
   have hl:decide ((s.length:Int) < 1) = false:=decide_eq_false (by omega)
   by_cases h2:s.length ≤ 60
   ·
    have hl2:decide ((60:Int) < (s.length:Int)) = false:=decide_eq_false (by omega)
    have HF:=Lib.hid (HR.out hv h1 h2)
    obtain ⟨cap,C,hc1,hc2,hcv,hC⟩:=runes_conv s (by omega) w1
    have hle:=runesGo_le s.length s
    have hRl:=runes_len s
    have hle':∀ c ∈ runes s,c ≤ 1114111:=hle
    generalize runes s = R at *
    have HC:=Lib.hid hC
    have HLE:=Lib.hid hle'
    clear hv h1 hle hle' hC HN HR
    have HB2:Hid (Below w.heap.size w ((w1.alloc (.cells C 21)).drew)):=Lib.hid (bel_drew (bel_alloc HB1.out _))
    go_wp2
    go_loopw [4] (fun vi wr=>∃ k:Nat,k ≤ R.length∧vi = .int .i64 k∧wr = (w1.alloc (.cells C 21)).drew∧Hid ((R.take k).all iriRune = true)) (fun vi _=>R.length - (intOf vi).toNat)
    case atStart=>exact ⟨0,by omega,rfl,by first | rfl | trivial,Lib.hid rfl⟩
    case round =>
     obtain ⟨k,hk,rfl,rfl,HA⟩:=hrel
     have hRb:R.length ≤ 60:=by omega
     by_cases hlt:k < R.length
     ·
      have hd:decide (k < R.length) = true:=decide_eq_true hlt
      have ik:(k:Int) < (R.length:Int):=by omega
      have ik0:(0:Int) ≤ (k:Int):=by omega
      obtain ⟨n,hn0⟩:∃ n,R[k] = n:=⟨_,rfl⟩
      have hcell:((w1.alloc (.cells C 21)).drew).cell? ⟨w1.heap.size,k,none⟩ = some (.int .i32 (n:Int)):=by
       unfold World.cell?
       dsimp only
       rw [show ((w1.alloc (.cells C 21)).drew).heap = (w1.alloc (.cells C 21)).heap from rfl,Kd.heap_new]
       dsimp only
       rw [← hn0]
       exact HC.out k hlt
      have hgl:Hid (R.take (k + 1) = R.take k ++ [n]):=Lib.hid (by rw [List.take_succ_eq_append_getElem hlt,hn0])
      have hnl:n ≤ 1114111:=HLE.out n (by rw [← hn0];exact List.getElem_mem hlt)
      have HNo:Hid (iriRune n = false → R.all iriRune = false):=Lib.hid (fun h=>by
       rw [List.all_eq_false]
       exact ⟨n,by rw [← hn0];exact List.getElem_mem hlt,by simp [h]⟩)
      clear hn0
      go_wp2_with fail
      refine (Ref4.iriRune_calls n hnl _).mono ?_
      rintro e w3 ⟨rfl,rfl⟩
      cases hb:iriRune n with
      | true =>
       have HA2:=Lib.hid (show (R.take (k + 1)).all iriRune = true by rw [hgl.out,List.all_append,HA.out];simp [hb])
       go_wp2
       go_roundw
       case rel=>exact ⟨k + 1,by omega,by go_num,by first | rfl | trivial,HA2⟩
       case measure=>simp [intOf];omega
      | false =>
       have HF2:=Lib.hid (HF.out.trans (HNo.out hb))
       go_wp2
       go_ret
       exact ⟨ret_bool HF2.out.symm,HB2.out⟩
     ·
      obtain rfl:k = R.length:=by omega
      rw [List.take_length] at HA
      have HF2:=Lib.hid (HF.out.trans HA.out)
      go_wp2
      go_ret
      exact ⟨ret_bool HF2.out.symm,HB2.out⟩
   ·
    have hl2:decide ((60:Int) < (s.length:Int)) = true:=decide_eq_true (by omega)
    have HF:=Lib.hid (HN.out (.inr (.inr (by omega))))
    clear hv h1
    go_wp2
    go_ret
    exact ⟨ret_bool HF.out.symm,HB1.out⟩
def termV (t:Term):Value:=.agg #[.int .i64 t.kind,.string (mkS t.text),.string (mkS t.extra)]
def Fits (t:Term):Prop:=(-9223372036854775808 ≤ t.kind∧t.kind ≤ 9223372036854775807)∧t.text.length ≤ 70368744177664∧t.extra.length ≤ 70368744177664
def FitsB (t:Term):Prop:=(-9223372036854775808 ≤ t.kind∧t.kind ≤ 9223372036854775807)∧t.text.length ≤ 140737488355328∧t.extra.length ≤ 140737488355328
set_option maxRecDepth 100000 in
set_option maxHeartbeats 3200000 in
theorem is4w_calls (t:Term) (ht:FitsB t) (w:World) (he:Env w) :
  Calls Tryz.prog 83 #[termV t] w fun e w'=>e = .returned (.bool (is t))∧Below w.heap.size w w':=by
 obtain ⟨kind,x,ex⟩:=t
 obtain ⟨_,hx,hex⟩:=ht
 dsimp only at *
 have zx:=mkS_size x
 have ze:=mkS_toList ex
 have HE:=Lib.hid he
 have HI:Hid (is ⟨kind,x,ex⟩ = if kind = 1 then isIRI x && decide (ex = [])
  else if kind = 2 then isLabel x && decide (ex = [])
  else if kind = 3 then isText x && decide (ex = [])
  else if kind = 4 then isText x && isLang ex
  else if kind = 5 then isText x && isIRI ex
  else false):=Lib.hid rfl
 obtain ⟨xe,hxe⟩:∃ xe:Bool,decide (ex = []) = xe:=⟨_,rfl⟩
 have hee:ex.isEmpty = xe:=by rw [← hxe];cases ex <;> rfl
 rw [hxe] at HI
 clear he hxe
 unfold termV
 dsimp only
 go_enter Tryz.func83,Tryz.ntmps83
 go_upto_region 1 with fail
 go_cut [3] (fun v3 wx=>v3 = .bool (isText x)∧Hid (Below (w.heap.size + 1) (w.alloc (.cells #[.int .i64 kind,.string (mkS x),.string (mkS ex)] 24)) wx))
 case first =>
  clear hee HI
  go_wp2_with fail
  refine (valid_calls x (by omega) _ (HE.out.below ((Below.refl _ _).alloc (Nat.le_refl _) _))).mono ?_
  rintro e w1 ⟨rfl,hb1⟩
  obtain ⟨hc1,hf1⟩:=bcell hb1
  have HB1:=Lib.hid hb1
  have HT:Hid (isText x = (decide (x.length ≤ 30) && validD x)):=Lib.hid rfl
  clear hb1
  cases hv:validD x with
  | false =>
   have HT2:=Lib.hid (show isText x = false by rw [HT.out,hv];simp)
   go_wp2
   go_meet
   exact ⟨by rw [HT2.out],Lib.hid (by simpa using HB1.out)⟩
  | true =>
   have HT2:=Lib.hid (show isText x = decide ((x.length:Int) ≤ 30) by rw [HT.out,hv,Bool.and_true,Bool.eq_iff_iff,decide_eq_true_iff,decide_eq_true_iff];omega)
   go_wp2
   go_meet
   exact ⟨by rw [HT2.out],Lib.hid (by simpa using HB1.out)⟩
 case rest =>
  obtain ⟨rfl,HB⟩:=hcut
  have hb1:=HB.out
  have hb1':Below (w.alloc (.cells #[.int .i64 kind,.string (mkS x),.string (mkS ex)] 24)).heap.size (w.alloc (.cells #[.int .i64 kind,.string (mkS x),.string (mkS ex)] 24)) wc:=by simpa using hb1
  obtain ⟨hc1,hf1⟩:=bcell hb1'
  have HW:=Lib.hid (show Below w.heap.size w wc from ((Below.refl _ _).alloc (Nat.le_refl _) _).trans (hb1.mono (by omega)))
  have HE1:=Lib.hid (HE.out.below HW.out)
  have WC:w.heap.size < wc.heap.size:=by have:=hb1.size;simp at this;omega
  clear hb1 hb1' HB HE
  generalize isText x = tx at *
  by_cases k1:kind = 1
  ·
   subst k1
   have HF:=Lib.hid (HI.out.trans (if_pos rfl))
   clear HI
   go_wp2_with fail
   refine (isIRI_calls x (by omega) _ HE1.out).mono ?_
   rintro e w2 ⟨rfl,hb2⟩
   obtain ⟨hc2,hf2⟩:=bcell hb2
   have hz2:=hb2.size
   have HW2:=Lib.hid (bel_step HW.out hb2)
   have hz1:w.heap.size < wc.heap.size:=WC
   clear hb2
   generalize isIRI x = r at *
   cases r
   all_goals go_wp2
   all_goals go_ret
   all_goals exact ⟨ret_bool (by rw [HF.out];simp [*]),HW2.out⟩
  ·
   have e1:(kind == 1) = false:=by rw [beq_eq_false_iff_ne];exact k1
   by_cases k2:kind = 2
   ·
    subst k2
    have HF:=Lib.hid (HI.out.trans ((if_neg (by decide)).trans (if_pos rfl)))
    clear HI
    go_wp2_with fail
    refine (Ref4.label_calls x (by omega) _).mono ?_
    rintro e w2 ⟨rfl,rfl⟩
    have HW2:=HW
    generalize isLabel x = r at *
    cases r
    all_goals go_wp2
    all_goals go_ret
    all_goals exact ⟨ret_bool (by rw [HF.out];simp [*]),HW2.out⟩
   ·
    have e2:(kind == 2) = false:=by rw [beq_eq_false_iff_ne];exact k2
    by_cases k3:kind = 3
    ·
     subst k3
     have HF:=Lib.hid (HI.out.trans ((if_neg (by decide)).trans ((if_neg (by decide)).trans (if_pos rfl))))
     clear HI
     cases tx with
     | false =>
      go_wp2
      all_goals go_ret
      all_goals exact ⟨ret_bool (by rw [HF.out];simp [*]),HW.out⟩
     | true =>
      go_wp2
      all_goals go_ret
      all_goals exact ⟨ret_bool (by rw [HF.out];simp [*]),HW.out⟩
    ·
     have e3:(kind == 3) = false:=by rw [beq_eq_false_iff_ne];exact k3
     by_cases k4:kind = 4
     ·
      subst k4
      have HF:=Lib.hid (HI.out.trans ((if_neg (by decide)).trans ((if_neg (by decide)).trans ((if_neg (by decide)).trans (if_pos rfl)))))
      clear HI
      cases tx with
      | false =>
       go_wp2
       all_goals go_ret
       all_goals exact ⟨ret_bool (by rw [HF.out];simp [*]),HW.out⟩
      | true =>
       go_wp2_with fail
       refine (Ref4.lang_calls ex (by omega) _).mono ?_
       rintro e w2 ⟨rfl,hb2⟩
       obtain ⟨hc2,hf2⟩:=bcell hb2
       have hz2:=hb2.size
       have HW2:=Lib.hid (bel_step HW.out hb2)
       have hz1:w.heap.size < wc.heap.size:=WC
       clear hb2
       generalize isLang ex = r at *
       cases r
       all_goals go_wp2
       all_goals go_ret
       all_goals exact ⟨ret_bool (by rw [HF.out];simp [*]),HW2.out⟩
     ·
      have e4:(kind == 4) = false:=by rw [beq_eq_false_iff_ne];exact k4
      by_cases k5:kind = 5
      ·
       subst k5
       have HF:=Lib.hid (HI.out.trans ((if_neg (by decide)).trans ((if_neg (by decide)).trans ((if_neg (by decide)).trans ((if_neg (by decide)).trans (if_pos rfl))))))
       clear HI
       cases tx with
       | false =>
        go_wp2
        all_goals go_ret
        all_goals exact ⟨ret_bool (by rw [HF.out];simp [*]),HW.out⟩
       | true =>
        go_wp2_with fail
        refine (isIRI_calls ex (by omega) _ HE1.out).mono ?_
        rintro e w2 ⟨rfl,hb2⟩
        obtain ⟨hc2,hf2⟩:=bcell hb2
        have hz2:=hb2.size
        have HW2:=Lib.hid (bel_step HW.out hb2)
        have hz1:w.heap.size < wc.heap.size:=WC
        clear hb2
        generalize isIRI ex = r at *
        cases r
        all_goals go_wp2
        all_goals go_ret
        all_goals exact ⟨ret_bool (by rw [HF.out];simp [*]),HW2.out⟩
      ·
       have e5:(kind == 5) = false:=by rw [beq_eq_false_iff_ne];exact k5
       have HF:=Lib.hid (HI.out.trans ((if_neg k1).trans ((if_neg k2).trans ((if_neg k3).trans ((if_neg k4).trans (if_neg k5))))))
       clear HI
       go_wp2
       go_ret
       exact ⟨ret_bool HF.out.symm,HW.out⟩
theorem is4_calls (t:Term) (ht:Fits t) (w:World) (he:Env w) :
  Calls Tryz.prog 83 #[termV t] w fun e w'=>e = .returned (.bool (is t))∧Below w.heap.size w w':=is4w_calls t (by obtain ⟨h1,h2,h3⟩:=ht;exact ⟨h1,by omega,by omega⟩) w he
end Go.Proofs.YtnplommdgfgboaaGreatDoor.Ref5
namespace Go.Proofs.YtnplommdgfgboaaGreatDoor.Ref5
open Go.RowKit Go.Lib B Rd Utf TermPure LinesPure Tx Env
def tripleV (t:Triple):Value:=.agg #[.int .i64 t.s.kind,.string (mkS t.s.text),.string (mkS t.s.extra),.int .i64 t.p.kind,.string (mkS t.p.text),.string (mkS t.p.extra),.int .i64 t.o.kind,.string (mkS t.o.text),.string (mkS t.o.extra)]
def FitsT (t:Triple):Prop:=Fits t.s∧Fits t.p∧Fits t.o
def FitsB3 (t:Triple):Prop:=FitsB t.s∧FitsB t.p∧FitsB t.o
theorem is_kind (t:Term) (h:is t = true):1 ≤ t.kind∧t.kind ≤ 5:=by
 unfold is at h
 by_cases h1:t.kind = 1
 ·
  omega
 ·
  by_cases h2:t.kind = 2
  ·
   omega
  ·
   by_cases h3:t.kind = 3
   ·
    omega
   ·
    by_cases h4:t.kind = 4
    ·
     omega
    ·
     by_cases h5:t.kind = 5
     ·
      omega
     ·
      rw [if_neg h1,if_neg h2,if_neg h3,if_neg h4,if_neg h5] at h
      cases h
theorem isTriple_eq (t:Triple):isTriple t = (is t.s && (is t.p && (is t.o && (decide (t.s.kind ≤ 2) && (t.p.kind == 1))))):=by
 unfold isTriple
 cases h:is t.s with
 | false=>rfl
 | true =>
  have:=is_kind _ h
  congr 3
  congr 1
  ·
   rw [Bool.eq_iff_iff]
   simp
   omega
set_option maxRecDepth 100000 in
set_option maxHeartbeats 3200000 in
theorem is5w_calls (t:Triple) (ht:FitsB3 t) (w:World) (he:Env w) :
  Calls Tryz.prog 42 #[tripleV t] w fun e w'=>e = .returned (.bool (isTriple t))∧Below w.heap.size w w':=by
 have HI:=Lib.hid (isTriple_eq t)
 obtain ⟨⟨k1,x1,y1⟩,⟨k2,x2,y2⟩,⟨k3,x3,y3⟩⟩:=t
 obtain ⟨h1,h2,h3⟩:=ht
 dsimp only at *
 have HE:=Lib.hid (he.below ((Below.refl w.heap.size w).alloc (Nat.le_refl _) (.cells #[.int .i64 k1,.string (mkS x1),.string (mkS y1),.int .i64 k2,.string (mkS x2),.string (mkS y2),.int .i64 k3,.string (mkS x3),.string (mkS y3)] 36)))
 have HB:=Lib.hid ((Below.refl w.heap.size w).alloc (Nat.le_refl _) (.cells #[.int .i64 k1,.string (mkS x1),.string (mkS y1),.int .i64 k2,.string (mkS x2),.string (mkS y2),.int .i64 k3,.string (mkS x3),.string (mkS y3)] 36))
 have H1:=Lib.hid (fun W hW=>is4w_calls ⟨k1,x1,y1⟩ h1 W hW)
 have H2:=Lib.hid (fun W hW=>is4w_calls ⟨k2,x2,y2⟩ h2 W hW)
 have H3:=Lib.hid (fun W hW=>is4w_calls ⟨k3,x3,y3⟩ h3 W hW)
 clear he h1 h2 h3
 unfold termV at H1 H2 H3
 dsimp only at H1 H2 H3
 generalize is ⟨k1,x1,y1⟩ = r1 at *
 generalize is ⟨k2,x2,y2⟩ = r2 at *
 generalize is ⟨k3,x3,y3⟩ = r3 at *
 unfold tripleV
 dsimp only
 go_enter Tryz.func42,Tryz.ntmps42
 go_wp2_with fail
 refine (H1.out _ HE.out).mono ?_
 rintro e w1 ⟨rfl,hb1⟩
 obtain ⟨hc1,hf1⟩:=bcell hb1
 have hz1:w.heap.size < w1.heap.size:=by have:=hb1.size;simp at this;omega
 have HB1:=Lib.hid (bel_step HB.out hb1)
 have HE1:=Lib.hid (HE.out.below hb1)
 clear hb1
 cases r1 with
 | false =>
  have HF:=Lib.hid HI.out
  go_wp2
  go_ret
  exact ⟨ret_bool (by rw [HI.out];rfl),HB1.out⟩
 | true =>
  go_wp2_with fail
  refine (H2.out _ HE1.out).mono ?_
  rintro e w2 ⟨rfl,hb2⟩
  obtain ⟨hc2,hf2⟩:=bcell hb2
  have hz2:w.heap.size < w2.heap.size:=by have:=hb2.size;omega
  have HB2:=Lib.hid (bel_step HB1.out hb2)
  have HE2:=Lib.hid (HE1.out.below hb2)
  clear hb2
  cases r2 with
  | false =>
   go_wp2
   go_ret
   exact ⟨ret_bool (by rw [HI.out];rfl),HB2.out⟩
  | true =>
   go_wp2_with fail
   refine (H3.out _ HE2.out).mono ?_
   rintro e w3 ⟨rfl,hb3⟩
   obtain ⟨hc3,hf3⟩:=bcell hb3
   have hz3:w.heap.size < w3.heap.size:=by have:=hb3.size;omega
   have HB3:=Lib.hid (bel_step HB2.out hb3)
   clear hb3
   cases r3 with
   | false =>
    go_wp2
    go_ret
    exact ⟨ret_bool (by rw [HI.out];rfl),HB3.out⟩
   | true =>
    obtain ⟨q1,hq1⟩:∃ q:Bool,decide (k1 ≤ 2) = q:=⟨_,rfl⟩
    obtain ⟨q2,hq2⟩:∃ q:Bool,(k2 == 1) = q:=⟨_,rfl⟩
    have HF:=Lib.hid (HI.out.trans (show _ = (q1 && q2) by rw [hq1,hq2];rfl))
    cases q1
    all_goals cases q2
    all_goals go_wp2
    all_goals go_ret
    all_goals exact ⟨ret_bool (by rw [HF.out];rfl),HB3.out⟩
theorem is5_calls (t:Triple) (ht:FitsT t) (w:World) (he:Env w) :
  Calls Tryz.prog 42 #[tripleV t] w fun e w'=>e = .returned (.bool (isTriple t))∧Below w.heap.size w w':=is5w_calls t (by obtain ⟨⟨a1,a2,a3⟩,⟨b1,b2,b3⟩,⟨c1,c2,c3⟩⟩:=ht;exact ⟨⟨a1,by omega,by omega⟩,⟨b1,by omega,by omega⟩,⟨c1,by omega,by omega⟩⟩) w he
theorem lower_yes (b:UInt8) (h1:65 ≤ b.toNat) (h2:b.toNat ≤ 90):((lowerB b).toNat:Int) = (b.toNat:Int) + 32:=by
 have hu:isUpperB b = true:=by
  unfold isUpperB
  simp [UInt8.le_iff_toNat_le]
  omega
 rw [lowerB,if_pos hu,UInt8.toNat_add]
 have:(32:UInt8).toNat = 32:=rfl
 omega
theorem lower_no (b:UInt8) (h:¬ (65 ≤ b.toNat∧b.toNat ≤ 90)):lowerB b = b:=by
 have hu:isUpperB b = false:=by
  unfold isUpperB
  simp [UInt8.le_iff_toNat_le]
  omega
 rw [lowerB,hu]
 try rfl
set_option maxRecDepth 100000 in
set_option maxHeartbeats 1600000 in
theorem small_calls (s:List UInt8) (hs:s.length ≤ 70368744177664) (w:World) :
  Calls Tryz.prog 219 #[.string (mkS s)] w fun e w'=>e = .returned (.string (mkS (toLowerA s)))∧Below w.heap.size w w':=by
 obtain ⟨cap,o,hc1,hc2,hcv,ho⟩:=bytes_conv s hs w
 have ho':=ho w rfl
 have HC0:=Lib.hid (fun k h=>(ho' k h).1)
 have HF0:=Lib.hid (fun k h=>(ho' k h).2)
 clear ho ho'
 go_enter Tryz.func219,Tryz.ntmps219
 go_wp2
 go_loopw [4] (fun vi wr=>∃ k:Nat,k ≤ s.length∧vi = .int .i64 k∧Hid (Below w.heap.size w wr)∧Hid (∀ i (h:i < s.length),wr.cell? ⟨w.heap.size,i,none⟩ = some (.int .u8 ((if i < k then lowerB s[i] else s[i]).toNat:Int)))∧Hid (∀ i (h:i < s.length),wr.frozen? ⟨w.heap.size,i,none⟩ = false)) (fun vi _=>s.length - (intOf vi).toNat)
 case atStart=>exact ⟨0,by omega,rfl,Lib.hid (bel_drew (bel_alloc (Below.refl _ _) _)),Lib.hid (fun i h=>(HC0.out i h).trans (by simp)),Lib.hid (fun i h=>HF0.out i h)⟩
 case round =>
  obtain ⟨k,hk,rfl,HB,HC,HF⟩:=hrel
  by_cases hlt:k < s.length
  ·
   have hd:decide (k < s.length) = true:=decide_eq_true hlt
   have ik:(k:Int) < (s.length:Int):=by omega
   have ik0:(0:Int) ≤ (k:Int):=by omega
   have hcell:=HC.out k hlt
   rw [if_neg (by omega)] at hcell
   have hfr:=HF.out k hlt
   obtain ⟨b,hb0⟩:∃ b,s[k] = b:=⟨_,rfl⟩
   rw [hb0] at hcell
   have HB0:=Lib.hid hb0
   have hbl:=b.toNat_lt
   clear hb0
   by_cases h1:65 ≤ b.toNat∧b.toNat ≤ 90
   ·
    obtain ⟨h1,h2⟩:=h1
    have e1:decide (65 ≤ (b.toNat:Int)) = true:=decide_eq_true (by omega)
    have e2:decide ((b.toNat:Int) ≤ 90) = true:=decide_eq_true (by omega)
    have i2:(b.toNat:Int) ≤ 90:=by omega
    have HL:=Lib.hid (lower_yes b h1 h2)
    go_wp2
    go_roundw
    case rel =>
     refine ⟨k + 1,by omega,by go_num,Lib.hid (bel_set HB.out (Nat.le_refl _) _),Lib.hid ?_,Lib.hid ?_⟩
     ·
      intro i hi
      by_cases e:i = k
      ·
       subst e
       rw [World.cell?_setCell_same _ _ _ hcell,if_pos (by omega),HB0.out,HL.out]
      ·
       rw [World.cell?_setCell_other _ _ _ _ (by simp;try omega),HC.out i hi]
       by_cases h:i < k
       ·
        rw [if_pos h,if_pos (by omega)]
       ·
        rw [if_neg h,if_neg (by omega)]
     ·
      intro i hi
      rw [World.frozen?_setCell]
      exact HF.out i hi
    case measure=>simp [intOf];omega
   ·
    have e1:(decide (65 ≤ (b.toNat:Int)) && decide ((b.toNat:Int) ≤ 90)) = false:=by simp;omega
    have HL:=Lib.hid (lower_no b h1)
    have h3:(decide (65 ≤ (b.toNat:Int)) = false) ∨ (decide (65 ≤ (b.toNat:Int)) = true∧decide ((b.toNat:Int) ≤ 90) = false):=by simp;omega
    clear h1 e1
    rcases h3 with h3 | ⟨h3,h4⟩
    all_goals
     go_wp2
     go_roundw
     case rel =>
      refine ⟨k + 1,by omega,by go_num,HB,Lib.hid ?_,HF⟩
      intro i hi
      rw [HC.out i hi]
      by_cases e:i = k
      ·
       subst e
       rw [if_neg (by omega),if_pos (by omega),HB0.out,HL.out]
      ·
       by_cases h:i < k
       ·
        rw [if_pos h,if_pos (by omega)]
       ·
        rw [if_neg h,if_neg (by omega)]
     case measure=>simp [intOf];omega
  ·
   obtain rfl:k = s.length:=by omega
   have hback:=run_convert_bytes_back (P:=Tryz.prog) wr 55 9 5 ⟨w.heap.size,0,none⟩ cap (toLowerA s) Tryz.underlying55 Tryz.underlying5 Tryz.underlying9 (fun j hj=>by
    have hj':j < s.length:=by simpa [toLowerA] using hj
    rw [add_plain,HC.out j hj',if_pos hj']
    simp [toLowerA])
   rw [show (toLowerA s).length = s.length by simp [toLowerA]] at hback
   go_wp2
   go_ret
   exact ⟨rfl,HB.out⟩
end Go.Proofs.YtnplommdgfgboaaGreatDoor.Ref5
namespace Go.Proofs.YtnplommdgfgboaaGreatDoor.Ref5
open Go.RowKit Go.Lib B Rd Utf TermPure LinesPure Tx Env
def TermPost (w:World) (rb:Nat) (r:Option (Term × List UInt8)) (e:Ending) (w':World):Prop:=match r with
 | none=>(∃ t:Term,e = .returned (termV t)∧Fits t)∧Step w w' rb [] true
 | some (t,q)=>(e = .returned (termV t)∧Fits t)∧Step w w' rb q false
theorem up_len (stop:UInt8) (lit nl:Bool):∀ (n:Nat) (l:List UInt8),l.length ≤ n → ∀ o r,up stop lit nl l = some (o,r) → o.length + r.length < l.length
 | n,[],h,o,r,hu=>by rw [up_nil] at hu;cases hu
 | 0,b :: l,h,o,r,hu=>by simp at h
 | n + 1,b :: l,h,o,r,hu=>by
  simp at h
  by_cases h1:b = stop
  ·
   subst h1
   rw [up_stop] at hu
   cases hu
   simp
  ·
   by_cases h2:b = 92
   ·
    cases he:esc lit l with
    | none=>rw [up_esc_none stop lit nl b l h1 h2 he] at hu;cases hu
    | some p =>
     obtain ⟨o1,r1⟩:=p
     rw [up_esc stop lit nl b l o1 r1 h1 h2 he] at hu
     have hl:=esc_len2 lit l o1 r1 he
     cases hv:up stop lit nl r1 with
     | none=>rw [hv] at hu;cases hu
     | some q =>
      obtain ⟨o2,r2⟩:=q
      rw [hv] at hu
      cases hu
      have:=up_len stop lit nl n r1 (by omega) o2 r2 hv
      simp
      omega
   ·
    by_cases h3:nl = true∧(b = 10 ∨ b = 13)
    ·
     rw [up_line stop lit nl b l h1 h2 h3] at hu;cases hu
    ·
     rw [up_other stop lit nl b l h1 h2 h3] at hu
     cases hv:up stop lit nl l with
     | none=>rw [hv] at hu;cases hu
     | some q =>
      obtain ⟨o2,r2⟩:=q
      rw [hv] at hu
      cases hu
      have:=up_len stop lit nl n l (by omega) o2 r2 hv
      simp
      omega
theorem run_fst_len (d:Bool) (l:List UInt8):(run d l).1.length ≤ l.length:=by
 unfold run
 exact List.Sublist.length_le (List.takeWhile_sublist _)
theorem run_snd_len (d:Bool) (l:List UInt8):(run d l).2.length ≤ l.length:=by
 unfold run
 exact List.Sublist.length_le (List.dropWhile_sublist _)
theorem low_len (l:List UInt8):(toLowerA l).length = l.length:=by simp [toLowerA]
theorem caret3 (r:List UInt8):([94,94,60]:List UInt8).isPrefixOf r = (([94,94]:List UInt8).isPrefixOf r && ([60]:List UInt8).isPrefixOf (r.drop 2)):=by
 rcases r with _ | ⟨a,_ | ⟨b,r⟩⟩
 ·
  rfl
 ·
  show (94 == a && false) = ((94 == a && false) && _)
  simp
 ·
  show (94 == a && (94 == b && ([60]:List UInt8).isPrefixOf r)) = ((94 == a && (94 == b && true)) && ([60]:List UInt8).isPrefixOf r)
  rw [Bool.and_true,Bool.and_assoc]
set_option maxRecDepth 100000 in
set_option maxHeartbeats 3200000 in
theorem literal_calls (rb:Nat) (s:List UInt8) (w:World) (h:At w rb s false) :
  Calls Tryz.prog 189 #[.pointer (some ⟨rb,0,none⟩)] w fun e w'=>TermPost w rb (literal true s) e w':=by
 have hlt:=h.lt
 have hlen:=h.len
 have HA0:=Lib.hid h
 have HB0:=Lib.hid (bel_alloc (Below.refl w.heap.size w) (.cells #[.int .i64 0,.string (mkS []),.string (mkS [])] 24))
 have HA:=Lib.hid (h.kept HB0.out)
 have hne0:¬ w.heap.size = rb:=by omega
 clear h
 have HL:Hid (literal true s = match up 34 true true s with
 | none=>none
 | some (t,r) =>
  if [64].isPrefixOf r = true then some (⟨4,t,toLowerA (run true (r.drop 1)).1⟩,(run true (r.drop 1)).2)
  else if [94,94].isPrefixOf r = true then
   if [60].isPrefixOf (r.drop 2) = true then (up 62 false true (r.drop 3)).map fun x=>(⟨5,t,x.1⟩,x.2)
   else if true = true then some (⟨3,t,[]⟩,r) else none
  else some (⟨3,t,[]⟩,r)):=Lib.hid rfl
 go_enter Tryz.func189,Tryz.ntmps189
 go_wp2_with fail
 refine (upTo_calls rb s false true 34 _ HA.out).mono ?_
 intro e w1 hp
 have UL:=up_len 34 true true s.length s (Nat.le_refl _)
 cases hu:up 34 true true s with
 | none =>
  rw [hu] at hp HL
  obtain ⟨rfl,hs1⟩:=hp
  obtain ⟨hc1,hf1⟩:=gcell hs1.grown
  have hz1:=hs1.grown.size
  have hz1':w.heap.size < w1.heap.size:=by simp at hz1;omega
  have HS1:=Lib.hid (hs1.from HB0.out)
  have hne1:¬ w1.heap.size = rb:=by omega
  have hne2:¬ w.heap.size = w1.heap.size:=by omega
  have hne3:¬ w1.heap.size = w.heap.size:=by omega
  have HA1:=Lib.hid (fun W (hb:Below w1.heap.size w1 W)=>hs1.at'.kept hb)
  clear hu hs1 hz1 UL
  go_wp2_with fail
  refine (has_calls rb [] [64] true (by decide) _ (HA1.out _ (bel_alloc (Below.refl _ _) _))).mono ?_
  rintro e w2 ⟨rfl,rfl⟩
  rw [show ([64]:List UInt8).isPrefixOf [] = false from rfl]
  go_wp2_with fail
  refine (has_calls rb [] [94,94,60] true (by decide) _ (HA1.out _ (bel_alloc (Below.refl _ _) _))).mono ?_
  rintro e w2 ⟨rfl,rfl⟩
  rw [show ([94,94,60]:List UInt8).isPrefixOf [] = false from rfl]
  go_wp2
  refine bodyPost_ret (v:=termV ⟨3,[],[]⟩) (by simp [results,Tryz.results189,go_sem,hne0,hne2,hne3,hc1,hz1',termV,mkS_nil]) rfl ?_
  rw [HL.out]
  refine ⟨⟨_,rfl,by simp,by simp,by simp⟩,?_⟩
  clear hc1 hf1
  repeat first | exact HS1.out | refine Step.alloc ?_ _ | refine Step.other ?_ (by omega) (by omega) _
 | some p =>
  obtain ⟨t,r⟩:=p
  have hlen2:=UL t r hu
  rw [hu] at hp HL
  obtain ⟨rfl,hs1⟩:=hp
  dsimp only at HL
  obtain ⟨hc1,hf1⟩:=gcell hs1.grown
  have hz1:=hs1.grown.size
  have hz1':w.heap.size < w1.heap.size:=by simp at hz1;omega
  have HS1:=Lib.hid (hs1.from HB0.out)
  have hne1:¬ w1.heap.size = rb:=by omega
  have hne2:¬ w.heap.size = w1.heap.size:=by omega
  have hne3:¬ w1.heap.size = w.heap.size:=by omega
  have hr1:rb < w1.heap.size:=by omega
  have HA1:=Lib.hid (fun W (hb:Below w1.heap.size w1 W)=>hs1.at'.kept hb)
  obtain ⟨a0,a1,b0,b1,_⟩:=hs1.at'
  have zr:=mkS_size r
  have hrl:r.length ≤ 70368744177664:=by omega
  clear hu hs1 hz1 UL HA HA0
  go_wp2_with fail
  refine (has_calls rb r [64] false (by decide) _ (HA1.out _ (bel_alloc (Below.refl _ _) _))).mono ?_
  rintro e w2 ⟨rfl,rfl⟩
  cases c1:([64]:List UInt8).isPrefixOf r with
  | true =>
   have hl1:=prefix_len _ _ c1
   have HD:=Lib.hid (HL.out.trans (if_pos c1))
   have hx:=drop1 r
   have hi1:(1:Int) ≤ (r.length:Int):=by simp at hl1;omega
   obtain ⟨q,hq⟩:∃ q,r.drop 1 = q:=⟨_,rfl⟩
   have hql:q.length ≤ r.length:=by rw [← hq];simp
   rw [hq] at HD hx
   clear c1 HL hq
   have HS2:=Lib.hid ((HS1.out.set0 (t:=q) (by omega)).alloc (.cells #[.int .i64 3,.string (mkS t),.string (mkS [])] 24))
   go_wp2_with fail
   refine (run_calls rb q false true _ HS2.out.at').mono ?_
   rintro e w2 ⟨rfl,hs2⟩
   obtain ⟨hc2,hf2⟩:=gcell hs2.grown
   have hz2:w1.heap.size < w2.heap.size:=by have:=hs2.grown.size;simp at this;omega
   have hz2':w.heap.size < w2.heap.size:=by omega
   have hrl:=run_fst_len true q
   have hrl2:=run_snd_len true q
   generalize run true q = pr at *
   obtain ⟨ru,rq⟩:=pr
   dsimp only at *
   have HS3:=Lib.hid (HS2.out.trans hs2)
   clear hs2
   go_wp2_with fail
   refine (small_calls ru (by omega) _).mono ?_
   rintro e w3 ⟨rfl,hb3⟩
   obtain ⟨hc3,hf3⟩:=bcell hb3
   have hz3:w1.heap.size < w3.heap.size:=by have:=hb3.size;omega
   have hz3':w.heap.size < w3.heap.size:=by omega
   have HS4:=Lib.hid (HS3.out.below hb3)
   have hll:=low_len ru
   generalize toLowerA ru = lo at *
   clear hb3
   go_wp2
   have q:∀ o,w3.cell? ⟨w.heap.size,o,none⟩ = w1.cell? ⟨w.heap.size,o,none⟩:=fun o=>by
    rw [hc3 _ _ hz2',hc2 _ _ (by simp;omega) hne0]
    simp [go_sem,hne0,hne1,hne2,hne3,hz1']
   have k0:w3.cell? ⟨w.heap.size,0,none⟩ = some (.int .i64 0):=by rw [q];simp [go_sem,hc1,hne0]
   have k1:w3.cell? ⟨w.heap.size,1,none⟩ = some (.string (mkS [])):=by rw [q];simp [go_sem,hc1,hne0]
   have k2:w3.cell? ⟨w.heap.size,2,none⟩ = some (.string (mkS [])):=by rw [q];simp [go_sem,hc1,hne0]
   refine bodyPost_ret (v:=termV ⟨4,t,lo⟩) (by simp [results,Tryz.results189,go_sem,hne0,hne1,hne2,hne3,hz1',hz2,hz2',hz3,hz3',k0,k1,k2,termV,mkS_nil]) rfl ?_
   rw [HD.out]
   refine ⟨⟨rfl,by simp,by simp;omega,by simp;omega⟩,?_⟩
   clear hc1 hf1 hc2 hf2 hc3 hf3
   repeat first | exact HS4.out | refine Step.alloc ?_ _ | refine Step.other ?_ (by omega) (by omega) _
  | false =>
   have HD:=Lib.hid (HL.out.trans (if_neg (by rw [c1];decide)))
   have K3:=Lib.hid (caret3 r)
   clear c1 HL
   go_wp2_with fail
   refine (has_calls rb r [94,94,60] false (by decide) _ (HA1.out _ (bel_alloc (Below.refl _ _) _))).mono ?_
   rintro e w2 ⟨rfl,rfl⟩
   cases c3:([94,94,60]:List UInt8).isPrefixOf r with
   | true =>
    have hl1:=prefix_len _ _ c3
    have hk:=K3.out.symm.trans c3
    rw [Bool.and_eq_true] at hk
    have HD2:=Lib.hid (HD.out.trans ((if_pos hk.1).trans (if_pos hk.2)))
    have hx:=drop3 r
    have hi1:(3:Int) ≤ (r.length:Int):=by simp at hl1;omega
    obtain ⟨q,hq⟩:∃ q,r.drop 3 = q:=⟨_,rfl⟩
    have hql:q.length ≤ r.length:=by rw [← hq];simp
    rw [hq] at HD2 hx
    clear c3 HD hq hk K3
    have HS2:=Lib.hid ((HS1.out.set0 (t:=q) (by omega)).alloc (.cells #[.int .i64 3,.string (mkS t),.string (mkS [])] 24))
    go_wp2_with fail
    refine (upTo_calls rb q false false 62 _ HS2.out.at').mono ?_
    intro e w2 hp
    have UL2:=up_len 62 false true q.length q (Nat.le_refl _)
    cases hu2:up 62 false true q with
    | none =>
     rw [hu2] at hp HD2
     obtain ⟨rfl,hs2⟩:=hp
     obtain ⟨hc2,hf2⟩:=gcell hs2.grown
     have hz2:w1.heap.size < w2.heap.size:=by have:=hs2.grown.size;simp at this;omega
     have hz2':w.heap.size < w2.heap.size:=by omega
     have HS3:=Lib.hid (HS2.out.trans hs2)
     clear hs2 hu2 UL2
     go_wp2
     have q:∀ o,w2.cell? ⟨w.heap.size,o,none⟩ = w1.cell? ⟨w.heap.size,o,none⟩:=fun o=>by
      rw [hc2 _ _ (by simp;omega) hne0]
      simp [go_sem,hne0,hne1,hne2,hne3,hz1']
     have k0:w2.cell? ⟨w.heap.size,0,none⟩ = some (.int .i64 0):=by rw [q];simp [go_sem,hc1,hne0]
     have k1:w2.cell? ⟨w.heap.size,1,none⟩ = some (.string (mkS [])):=by rw [q];simp [go_sem,hc1,hne0]
     have k2:w2.cell? ⟨w.heap.size,2,none⟩ = some (.string (mkS [])):=by rw [q];simp [go_sem,hc1,hne0]
     refine bodyPost_ret (v:=termV ⟨5,t,[]⟩) (by simp [results,Tryz.results189,go_sem,hne0,hne1,hne2,hne3,hz1',hz2,hz2',k0,k1,k2,termV,mkS_nil]) rfl ?_
     rw [HD2.out]
     refine ⟨⟨_,rfl,by simp,by simp;omega,by simp⟩,?_⟩
     clear hc1 hf1 hc2 hf2
     repeat first | exact HS3.out | refine Step.alloc ?_ _ | refine Step.other ?_ (by omega) (by omega) _
    | some p2 =>
     obtain ⟨x,y⟩:=p2
     have hxy:=UL2 x y hu2
     rw [hu2] at hp HD2
     obtain ⟨rfl,hs2⟩:=hp
     obtain ⟨hc2,hf2⟩:=gcell hs2.grown
     have hz2:w1.heap.size < w2.heap.size:=by have:=hs2.grown.size;simp at this;omega
     have hz2':w.heap.size < w2.heap.size:=by omega
     have HS3:=Lib.hid (HS2.out.trans hs2)
     clear hs2 hu2 UL2
     go_wp2
     have q:∀ o,w2.cell? ⟨w.heap.size,o,none⟩ = w1.cell? ⟨w.heap.size,o,none⟩:=fun o=>by
      rw [hc2 _ _ (by simp;omega) hne0]
      simp [go_sem,hne0,hne1,hne2,hne3,hz1']
     have k0:w2.cell? ⟨w.heap.size,0,none⟩ = some (.int .i64 0):=by rw [q];simp [go_sem,hc1,hne0]
     have k1:w2.cell? ⟨w.heap.size,1,none⟩ = some (.string (mkS [])):=by rw [q];simp [go_sem,hc1,hne0]
     have k2:w2.cell? ⟨w.heap.size,2,none⟩ = some (.string (mkS [])):=by rw [q];simp [go_sem,hc1,hne0]
     refine bodyPost_ret (v:=termV ⟨5,t,x⟩) (by simp [results,Tryz.results189,go_sem,hne0,hne1,hne2,hne3,hz1',hz2,hz2',k0,k1,k2,termV,mkS_nil]) rfl ?_
     rw [HD2.out]
     refine ⟨⟨rfl,by simp,by simp;omega,by simp;omega⟩,?_⟩
     clear hc1 hf1 hc2 hf2
     repeat first | exact HS3.out | refine Step.alloc ?_ _ | refine Step.other ?_ (by omega) (by omega) _
   | false =>
    have HD2:Hid (literal true s = some (⟨3,t,[]⟩,r)):=Lib.hid (by
     rw [HD.out]
     by_cases h1:([94,94]:List UInt8).isPrefixOf r = true
     ·
      rw [if_pos h1]
      have h2:([60]:List UInt8).isPrefixOf (r.drop 2) = false:=by
       have:=K3.out.symm.trans c3
       rw [h1,Bool.true_and] at this
       exact this
      rw [if_neg (by rw [h2];decide),if_pos trivial]
     ·
      rw [if_neg h1])
    clear c3 HD K3
    go_wp2
    refine bodyPost_ret (v:=termV ⟨3,t,[]⟩) (by simp [results,Tryz.results189,go_sem,hne0,hne1,hne2,hne3,hc1,hz1',termV,mkS_nil]) rfl ?_
    rw [HD2.out]
    refine ⟨⟨rfl,by simp,by simp;omega,by simp⟩,?_⟩
    clear hc1 hf1
    repeat first | exact HS1.out | refine Step.alloc ?_ _ | refine Step.other ?_ (by omega) (by omega) _
end Go.Proofs.YtnplommdgfgboaaGreatDoor.Ref5
namespace Go.Proofs.YtnplommdgfgboaaGreatDoor.Tc
open Go.RowKit Go.Lib B Rd TermPure Ref5
structure TC (W:World) (g o:Nat) (t:Term):Prop where
 c0:W.cell? ⟨g,o,none⟩ = some (.int .i64 t.kind)
 c1:W.cell? ⟨g,o + 1,none⟩ = some (.string (mkS t.text))
 c2:W.cell? ⟨g,o + 2,none⟩ = some (.string (mkS t.extra))
 f0:W.frozen? ⟨g,o,none⟩ = false
 f1:W.frozen? ⟨g,o + 1,none⟩ = false
 f2:W.frozen? ⟨g,o + 2,none⟩ = false
theorem TC.lt {W:World} {g o:Nat} {t:Term} (h:TC W g o t):g < W.heap.size:=World.block_lt_of_cell? W ⟨g,o,none⟩ h.c0
theorem TC.moved {W W1:World} {g o:Nat} {t:Term} (h:TC W g o t) (hc:∀ o,W1.cell? ⟨g,o,none⟩ = W.cell? ⟨g,o,none⟩) (hf:∀ o,W1.frozen? ⟨g,o,none⟩ = W.frozen? ⟨g,o,none⟩):TC W1 g o t:=
 ⟨(hc _).trans h.c0,(hc _).trans h.c1,(hc _).trans h.c2,(hf _).trans h.f0,(hf _).trans h.f1,(hf _).trans h.f2⟩
theorem TC.below {W W1:World} {g o:Nat} {t:Term} (h:TC W g o t) (hb:Below W.heap.size W W1):TC W1 g o t:=
 h.moved (fun o=>(bcell hb).1 g o h.lt) (fun o=>(bcell hb).2 g o h.lt)
theorem TC.grown {W W1:World} {g o rb:Nat} {t:Term} (h:TC W g o t) (hg:W.grownBy W1 (some rb)) (hne:¬ g = rb):TC W1 g o t:=
 h.moved (fun o=>(gcell hg).1 g o h.lt hne) (fun o=>(gcell hg).2 g o h.lt hne)
theorem TC.alloc {W:World} {g o:Nat} {t:Term} (h:TC W g o t) (x:Obj):TC (W.alloc x) g o t:=h.below ((Below.refl _ _).alloc (Nat.le_refl _) x)
theorem TC.other {W:World} {g o g' j:Nat} {t:Term} (h:TC W g o t) (hne:¬ g = g') (u:Value):TC (W.setCell ⟨g',j,none⟩ u) g o t:=
 h.moved (fun o=>World.cell?_setCell_other _ _ _ _ (by simp;try (intro e;exact absurd e.symm hne))) (fun o=>World.frozen?_setCell _ _ _ _)
theorem TC.new (w:World) (t:Term):TC (w.alloc (.cells #[.int .i64 t.kind,.string (mkS t.text),.string (mkS t.extra)] 24)) w.heap.size 0 t:=by
 constructor
 all_goals first | (unfold World.cell?;dsimp only;rw [Kd.heap_new];rfl) | (unfold World.frozen?;dsimp only;rw [Kd.heap_new];rfl)
theorem TC.set {W:World} {g o:Nat} {t0:Term} (h:TC W g o t0) (t:Term):TC (((W.setCell ⟨g,o,none⟩ (.int .i64 t.kind)).setCell ⟨g,o + 1,none⟩ (.string (mkS t.text))).setCell ⟨g,o + 2,none⟩ (.string (mkS t.extra))) g o t:=by
 have e1:(W.setCell ⟨g,o,none⟩ (.int .i64 t.kind)).cell? ⟨g,o,none⟩ = some (.int .i64 t.kind):=World.cell?_setCell_same _ _ _ h.c0
 have e2:(W.setCell ⟨g,o,none⟩ (.int .i64 t.kind)).cell? ⟨g,o + 1,none⟩ = _:=(World.cell?_setCell_other _ _ _ _ (by simp)).trans h.c1
 have e3:((W.setCell ⟨g,o,none⟩ (.int .i64 t.kind)).setCell ⟨g,o + 1,none⟩ (.string (mkS t.text))).cell? ⟨g,o + 2,none⟩ = _:=(World.cell?_setCell_other _ _ _ _ (by simp)).trans ((World.cell?_setCell_other _ _ _ _ (by simp)).trans h.c2)
 refine ⟨?_,?_,World.cell?_setCell_same _ _ _ e3,?_,?_,?_⟩
 ·
  rw [World.cell?_setCell_other _ _ _ _ (by simp),World.cell?_setCell_other _ _ _ _ (by simp)]
  exact e1
 ·
  rw [World.cell?_setCell_other _ _ _ _ (by simp)]
  exact World.cell?_setCell_same _ _ _ e2
 ·
  simp only [World.frozen?_setCell];exact h.f0
 ·
  simp only [World.frozen?_setCell];exact h.f1
 ·
  simp only [World.frozen?_setCell];exact h.f2
theorem TC.apart {W:World} {g o j:Nat} {t:Term} (h:TC W g o t) (h0:j ≠ o) (h1:j ≠ o + 1) (h2:j ≠ o + 2) (u:Value):TC (W.setCell ⟨g,j,none⟩ u) g o t:=
 ⟨(World.cell?_setCell_other _ _ _ _ (by simp;try omega)).trans h.c0,(World.cell?_setCell_other _ _ _ _ (by simp;try omega)).trans h.c1,(World.cell?_setCell_other _ _ _ _ (by simp;try omega)).trans h.c2,
  (World.frozen?_setCell _ _ _ _).trans h.f0,(World.frozen?_setCell _ _ _ _).trans h.f1,(World.frozen?_setCell _ _ _ _).trans h.f2⟩
theorem TC.setK {W:World} {g o:Nat} {t:Term} (h:TC W g o t) (k:Int):TC (W.setCell ⟨g,o,none⟩ (.int .i64 k)) g o ⟨k,t.text,t.extra⟩:=
 ⟨World.cell?_setCell_same _ _ _ h.c0,(World.cell?_setCell_other _ _ _ _ (by simp)).trans h.c1,(World.cell?_setCell_other _ _ _ _ (by simp)).trans h.c2,
  (World.frozen?_setCell _ _ _ _).trans h.f0,(World.frozen?_setCell _ _ _ _).trans h.f1,(World.frozen?_setCell _ _ _ _).trans h.f2⟩
def zeroT:Term:=⟨0,[],[]⟩
end Go.Proofs.YtnplommdgfgboaaGreatDoor.Tc
namespace Go.Proofs.YtnplommdgfgboaaGreatDoor.Ref5
open Go.RowKit Go.Lib B Rd Utf TermPure LinesPure Tx Env Tc
def RawPost (w:World) (rb g2 g3:Nat) (s:List UInt8) (wx:World):Prop:=
 ∃ t:Term,Fits t∧TC wx g3 0 t∧TC wx g2 0 zeroT ∧
  ((rawTerm true s = none∧Step w wx rb [] true) ∨ (∃ q,Step w wx rb q false∧(rawTerm true s = some (t,q) ∨ (rawTerm true s = none∧is t = false))))
theorem two_zero {w:World} (W:World) (h:W.heap.size = w.heap.size) :
  TC ((W.alloc (.cells #[.int .i64 0,.string (mkS []),.string (mkS [])] 24)).alloc (.cells #[.int .i64 0,.string (mkS []),.string (mkS [])] 24)) w.heap.size 0 zeroT ∧
  TC ((W.alloc (.cells #[.int .i64 0,.string (mkS []),.string (mkS [])] 24)).alloc (.cells #[.int .i64 0,.string (mkS []),.string (mkS [])] 24)) (w.heap.size + 1) 0 zeroT:=by
 refine ⟨?_,?_⟩
 ·
  rw [← h]
  exact (TC.new W zeroT).alloc _
 ·
  rw [← h]
  have:=TC.new (W.alloc (.cells #[.int .i64 0,.string (mkS []),.string (mkS [])] 24)) zeroT
  simpa [zeroT] using this
set_option maxRecDepth 100000 in
set_option maxHeartbeats 3200000 in
theorem term_calls (rb:Nat) (s:List UInt8) (w:World) (he:Env w) (hrb:lowB ≤ rb) (h:At w rb s false) :
  Calls Tryz.prog 148 #[.pointer (some ⟨rb,0,none⟩)] w fun e w'=>TermPost w rb ((term true s).map fun x=>(x.1,blanks x.2)) e w':=by
 have hlt:=h.lt
 have hlen:=h.len
 have HE:=Lib.hid he
 have HS0:=Lib.hid (((Step.refl h).alloc (.cells #[.int .i64 0,.string (mkS []),.string (mkS [])] 24)).alloc (.cells #[.int .i64 0,.string (mkS []),.string (mkS [])] 24))
 have HT:=Lib.hid (two_zero (w:=w))
 have T2:=Lib.hid (HT.out w rfl).1
 have T3:=Lib.hid (HT.out w rfl).2
 have HSr:=Lib.hid (Step.refl h)
 have hn2:¬ w.heap.size = rb:=by omega
 have hn3:¬ w.heap.size + 1 = rb:=by omega
 have hz3:w.heap.size < w.heap.size + 1:=by omega
 have HR:Hid (rawTerm true s = if ([60]:List UInt8).isPrefixOf s = true then (up 62 false true (s.drop 1)).map fun x=>(⟨1,x.1,[]⟩,x.2)
  else if ([95,58]:List UInt8).isPrefixOf s = true then some (⟨2,(run false (s.drop 2)).1,[]⟩,(run false (s.drop 2)).2)
  else if ([34]:List UInt8).isPrefixOf s = true then literal true (s.drop 1)
  else none):=Lib.hid rfl
 obtain ⟨a0,a1,b0,b1,_⟩:=h
 have zs:=mkS_size s
 clear he
 go_enter Tryz.func148,Tryz.ntmps148
 go_upto_block 0 with fail
 go_cut [] (fun wx=>Hid (RawPost w rb w.heap.size (w.heap.size + 1) s wx))
 case first =>
  go_wp2_with fail
  refine (has_calls rb s [60] false (by decide) _ HS0.out.at').mono ?_
  rintro e w2 ⟨rfl,rfl⟩
  cases c1:([60]:List UInt8).isPrefixOf s with
  | true =>
   have HD:=Lib.hid (HR.out.trans (if_pos c1))
   have hl1:=prefix_len _ _ c1
   have hx:=drop1 s
   have hi1:(1:Int) ≤ (s.length:Int):=by simp at hl1;omega
   obtain ⟨q,hq⟩:∃ q,s.drop 1 = q:=⟨_,rfl⟩
   have hql:q.length ≤ s.length:=by rw [← hq];simp
   rw [hq] at HD hx
   clear c1 hq
   have HS1:=Lib.hid (((HSr.out.set0 (t:=q) (by omega)).alloc (.cells #[.int .i64 0,.string (mkS []),.string (mkS [])] 24)).alloc (.cells #[.int .i64 0,.string (mkS []),.string (mkS [])] 24))
   have HT3:=Lib.hid (HT.out (w.setCell ⟨rb,0,none⟩ (.string (mkS q))) (World.size_setCell _ _ _)).2
   have HT2:=Lib.hid (HT.out (w.setCell ⟨rb,0,none⟩ (.string (mkS q))) (World.size_setCell _ _ _)).1
   go_wp2_with fail
   refine (upTo_calls rb q false false 62 _ HS1.out.at').mono ?_
   intro e w2 hp
   have UL2:=up_len 62 false true q.length q (Nat.le_refl _)
   obtain ⟨hc0,hf0⟩:True∧True:=⟨trivial,trivial⟩
   cases hu2:up 62 false true q with
   | none =>
    rw [hu2] at hp HD
    obtain ⟨rfl,hs2⟩:=hp
    have HS2:=Lib.hid (HS1.out.trans hs2)
    have HU3:=Lib.hid (HT3.out.grown hs2.grown hn3)
    have HU2:=Lib.hid (HT2.out.grown hs2.grown hn2)
    obtain ⟨k0,k1,k2,l0,l1,l2⟩:=HU3.out
    simp only [Nat.zero_add] at k1 k2 l1 l2
    clear hc0 hf0
    clear hs2 hu2 UL2
    go_wp2
    go_meet
    refine Lib.hid ⟨⟨1,[],[]⟩,⟨by simp,by simp,by simp⟩,HU3.out.set ⟨1,[],[]⟩,((HU2.out.other (Nat.ne_of_lt hz3) _).other (Nat.ne_of_lt hz3) _).other (Nat.ne_of_lt hz3) _,.inl ⟨HD.out,((HS2.out.other (by omega) (by omega) _).other (by omega) (by omega) _).other (by omega) (by omega) _⟩⟩
   | some p2 =>
    obtain ⟨x,y⟩:=p2
    have hxy:=UL2 x y hu2
    rw [hu2] at hp HD
    obtain ⟨rfl,hs2⟩:=hp
    have HS2:=Lib.hid (HS1.out.trans hs2)
    have HU3:=Lib.hid (HT3.out.grown hs2.grown hn3)
    have HU2:=Lib.hid (HT2.out.grown hs2.grown hn2)
    obtain ⟨k0,k1,k2,l0,l1,l2⟩:=HU3.out
    simp only [Nat.zero_add] at k1 k2 l1 l2
    clear hc0 hf0
    clear hs2 hu2 UL2
    go_wp2
    go_meet
    refine Lib.hid ⟨⟨1,x,[]⟩,⟨by simp,by simp;omega,by simp⟩,HU3.out.set ⟨1,x,[]⟩,((HU2.out.other (Nat.ne_of_lt hz3) _).other (Nat.ne_of_lt hz3) _).other (Nat.ne_of_lt hz3) _,.inr ⟨y,((HS2.out.other (by omega) (by omega) _).other (by omega) (by omega) _).other (by omega) (by omega) _,.inl HD.out⟩⟩
  | false =>
   have HD:=Lib.hid (HR.out.trans (if_neg (by rw [c1];decide)))
   have C1:=Lib.hid c1
   clear c1 HR
   go_wp2_with fail
   refine (has_calls rb s [95,58] false (by decide) _ HS0.out.at').mono ?_
   rintro e w2 ⟨rfl,rfl⟩
   cases c2:([95,58]:List UInt8).isPrefixOf s with
   | true =>
    replace HD:=Lib.hid (HD.out.trans (if_pos c2))
    have hl1:=prefix_len _ _ c2
    have hx:=drop2 s
    have hi1:(2:Int) ≤ (s.length:Int):=by simp at hl1;omega
    obtain ⟨q,hq⟩:∃ q,s.drop 2 = q:=⟨_,rfl⟩
    have hql:q.length ≤ s.length:=by rw [← hq];simp
    rw [hq] at HD hx
    clear c2 hq
    have HS1:=Lib.hid (((HSr.out.set0 (t:=q) (by omega)).alloc (.cells #[.int .i64 0,.string (mkS []),.string (mkS [])] 24)).alloc (.cells #[.int .i64 0,.string (mkS []),.string (mkS [])] 24))
    have HT3:=Lib.hid (HT.out (w.setCell ⟨rb,0,none⟩ (.string (mkS q))) (World.size_setCell _ _ _)).2
    have HT2:=Lib.hid (HT.out (w.setCell ⟨rb,0,none⟩ (.string (mkS q))) (World.size_setCell _ _ _)).1
    go_wp2_with fail
    refine (run_calls rb q false false _ HS1.out.at').mono ?_
    rintro e w2 ⟨rfl,hs2⟩
    obtain ⟨hc0,hf0⟩:True∧True:=⟨trivial,trivial⟩
    have HS2:=Lib.hid (HS1.out.trans hs2)
    have HU3:=Lib.hid (HT3.out.grown hs2.grown hn3)
    have HU2:=Lib.hid (HT2.out.grown hs2.grown hn2)
    obtain ⟨k0,k1,k2,l0,l1,l2⟩:=HU3.out
    simp only [Nat.zero_add] at k1 k2 l1 l2
    clear hc0 hf0
    have hr1:=run_fst_len false q
    generalize run false q = pr at *
    obtain ⟨ru,rq⟩:=pr
    dsimp only at *
    clear hs2
    go_wp2
    go_meet
    refine Lib.hid ⟨⟨2,ru,[]⟩,⟨by simp,by simp;omega,by simp⟩,HU3.out.set ⟨2,ru,[]⟩,((HU2.out.other (Nat.ne_of_lt hz3) _).other (Nat.ne_of_lt hz3) _).other (Nat.ne_of_lt hz3) _,.inr ⟨rq,((HS2.out.other (by omega) (by omega) _).other (by omega) (by omega) _).other (by omega) (by omega) _,.inl HD.out⟩⟩
   | false =>
    replace HD:=Lib.hid (HD.out.trans (if_neg (by rw [c2];decide)))
    have C2:=Lib.hid c2
    clear c2
    go_wp2_with fail
    refine (has_calls rb s [34] false (by decide) _ HS0.out.at').mono ?_
    rintro e w2 ⟨rfl,rfl⟩
    cases c3:([34]:List UInt8).isPrefixOf s with
    | true =>
     replace HD:=Lib.hid (HD.out.trans (if_pos c3))
     have hl1:=prefix_len _ _ c3
     have hx:=drop1 s
     have hi1:(1:Int) ≤ (s.length:Int):=by simp at hl1;omega
     obtain ⟨q,hq⟩:∃ q,s.drop 1 = q:=⟨_,rfl⟩
     have hql:q.length ≤ s.length:=by rw [← hq];simp
     rw [hq] at HD hx
     clear c3 hq
     have HS1:=Lib.hid (((HSr.out.set0 (t:=q) (by omega)).alloc (.cells #[.int .i64 0,.string (mkS []),.string (mkS [])] 24)).alloc (.cells #[.int .i64 0,.string (mkS []),.string (mkS [])] 24))
     have HT3:=Lib.hid (HT.out (w.setCell ⟨rb,0,none⟩ (.string (mkS q))) (World.size_setCell _ _ _)).2
     have HT2:=Lib.hid (HT.out (w.setCell ⟨rb,0,none⟩ (.string (mkS q))) (World.size_setCell _ _ _)).1
     go_wp2_with fail
     refine (literal_calls rb q _ HS1.out.at').mono ?_
     intro e w2 hp
     obtain ⟨hc0,hf0⟩:True∧True:=⟨trivial,trivial⟩
     cases hu2:literal true q with
     | none =>
      rw [hu2] at hp HD
      obtain ⟨⟨⟨tk,tx,te⟩,rfl,hft⟩,hs2⟩:=hp
      unfold termV
      have HS2:=Lib.hid (HS1.out.trans hs2)
      have HU3:=Lib.hid (HT3.out.grown hs2.grown hn3)
      have HU2:=Lib.hid (HT2.out.grown hs2.grown hn2)
      obtain ⟨k0,k1,k2,l0,l1,l2⟩:=HU3.out
      simp only [Nat.zero_add] at k1 k2 l1 l2
      clear hc0 hf0
      have HFt:=Lib.hid hft
      clear hs2 hu2 hft
      go_wp2
      go_meet
      refine Lib.hid ⟨⟨tk,tx,te⟩,HFt.out,HU3.out.set ⟨tk,tx,te⟩,((HU2.out.other (Nat.ne_of_lt hz3) _).other (Nat.ne_of_lt hz3) _).other (Nat.ne_of_lt hz3) _,.inl ⟨HD.out,((HS2.out.other (by omega) (by omega) _).other (by omega) (by omega) _).other (by omega) (by omega) _⟩⟩
     | some p2 =>
      obtain ⟨⟨tk,tx,te⟩,y⟩:=p2
      rw [hu2] at hp HD
      obtain ⟨⟨rfl,hft⟩,hs2⟩:=hp
      unfold termV
      have HS2:=Lib.hid (HS1.out.trans hs2)
      have HU3:=Lib.hid (HT3.out.grown hs2.grown hn3)
      have HU2:=Lib.hid (HT2.out.grown hs2.grown hn2)
      obtain ⟨k0,k1,k2,l0,l1,l2⟩:=HU3.out
      simp only [Nat.zero_add] at k1 k2 l1 l2
      clear hc0 hf0
      have HFt:=Lib.hid hft
      clear hs2 hu2 hft
      go_wp2
      go_meet
      refine Lib.hid ⟨⟨tk,tx,te⟩,HFt.out,HU3.out.set ⟨tk,tx,te⟩,((HU2.out.other (Nat.ne_of_lt hz3) _).other (Nat.ne_of_lt hz3) _).other (Nat.ne_of_lt hz3) _,.inr ⟨y,((HS2.out.other (by omega) (by omega) _).other (by omega) (by omega) _).other (by omega) (by omega) _,.inl HD.out⟩⟩
    | false =>
     replace HD:=Lib.hid (HD.out.trans (if_neg (by rw [c3];decide)))
     clear c3
     go_wp2
     go_meet
     exact Lib.hid ⟨zeroT,⟨by decide,by decide,by decide⟩,T3.out,T2.out,.inr ⟨s,HS0.out,.inr ⟨HD.out,rfl⟩⟩⟩
 case rest =>
  obtain ⟨⟨tk,tx,te⟩,hft,h3,h2,hcase⟩:=hcut.out
  have hz2:=h3.lt
  have hz1:w.heap.size < wc.heap.size:=by omega
  have HT3:=Lib.hid h3
  have HT2:=Lib.hid h2
  have HFt:=Lib.hid hft
  clear hcut hft HR T2 T3 HS0 h2 h3 HT HSr
  rcases hcase with ⟨hd,hs⟩ | ⟨q,hs,hd⟩
  ·
   have HD:=Lib.hid (show term true s = none by rw [term,hd])
   have HS:=Lib.hid hs
   obtain ⟨a0,a1,b0,b1,_⟩:=hs.at'
   clear hd hs
   obtain ⟨k0,k1,k2,l0,l1,l2⟩:=HT3.out
   obtain ⟨m0,m1,m2,n0,n1,n2⟩:=HT2.out
   simp only [Nat.zero_add] at k1 k2 l1 l2 m1 m2 n1 n2
   dsimp only [zeroT] at *
   go_wp2_with fail
   refine (blanks_calls rb [] true _ HS.out.at').mono ?_
   rintro e w4 ⟨rfl,hs4⟩
   have HS4:=Lib.hid (HS.out.trans hs4)
   have HV3:=Lib.hid (HT3.out.grown hs4.grown hn3)
   have HV2:=Lib.hid (HT2.out.grown hs4.grown hn2)
   obtain ⟨k0,k1,k2,l0,l1,l2⟩:=HV3.out
   obtain ⟨m0,m1,m2,n0,n1,n2⟩:=HV2.out
   simp only [Nat.zero_add] at k1 k2 l1 l2 m1 m2 n1 n2
   dsimp only [zeroT] at *
   clear hs4
   go_wp2
   refine bodyPost_ret (v:=termV ⟨tk,tx,te⟩) (by simp [results,Tryz.results148,go_sem,hn2,hn3,m0,m1,m2,termV,mkS_nil]) rfl ?_
   rw [show (term true s) = none from HD.out]
   exact ⟨⟨_,rfl,HFt.out⟩,((HS4.out.other (by omega) (by omega) _).other (by omega) (by omega) _).other (by omega) (by omega) _⟩
  ·
   have HS:=Lib.hid hs
   have hql:=hs.at'.len
   have HD:Hid (term true s = if is ⟨tk,tx,te⟩ = true then some (⟨tk,tx,te⟩,q) else none):=Lib.hid (by
    rcases hd with hd | ⟨hd,hi⟩
    ·
     rw [term,hd]
    ·
     rw [term,hd,hi]
     rfl)
   obtain ⟨a0,a1,b0,b1,_⟩:=hs.at'
   have HE1:=Lib.hid (HE.out.grown hs.grown hrb)
   clear hd hs
   obtain ⟨k0,k1,k2,l0,l1,l2⟩:=HT3.out
   obtain ⟨m0,m1,m2,n0,n1,n2⟩:=HT2.out
   simp only [Nat.zero_add] at k1 k2 l1 l2 m1 m2 n1 n2
   dsimp only [zeroT] at *
   go_wp2_with fail
   refine (is4_calls ⟨tk,tx,te⟩ HFt.out _ HE1.out).mono ?_
   rintro e w3 ⟨rfl,hb3⟩
   have HS3:=Lib.hid (HS.out.below hb3)
   have HU3:=Lib.hid (HT3.out.below hb3)
   have HU2:=Lib.hid (HT2.out.below hb3)
   clear hb3 k0 k1 k2 l0 l1 l2 m0 m1 m2 n0 n1 n2 a0 a1 b0 b1
   obtain ⟨a0,a1,b0,b1,_⟩:=HS3.out.at'
   obtain ⟨k0,k1,k2,l0,l1,l2⟩:=HU3.out
   obtain ⟨m0,m1,m2,n0,n1,n2⟩:=HU2.out
   simp only [Nat.zero_add] at k1 k2 l1 l2 m1 m2 n1 n2
   dsimp only [zeroT] at *
   cases hi:is ⟨tk,tx,te⟩ with
   | true =>
    have HD1:=Lib.hid (HD.out.trans (if_pos hi))
    clear hi HD
    clear k0 k1 k2 l0 l1 l2 m0 m1 m2 n0 n1 n2
    go_wp2_with fail
    refine (blanks_calls rb q false _ HS3.out.at').mono ?_
    rintro e w4 ⟨rfl,hs4⟩
    have HS4:=Lib.hid (HS3.out.trans hs4)
    have HV3:=Lib.hid (HU3.out.grown hs4.grown hn3)
    have HV2:=Lib.hid (HU2.out.grown hs4.grown hn2)
    obtain ⟨k0,k1,k2,l0,l1,l2⟩:=HV3.out
    obtain ⟨m0,m1,m2,n0,n1,n2⟩:=HV2.out
    simp only [Nat.zero_add] at k1 k2 l1 l2 m1 m2 n1 n2
    dsimp only [zeroT] at *
    clear hs4
    go_wp2
    refine bodyPost_ret (v:=termV ⟨tk,tx,te⟩) (by simp [results,Tryz.results148,go_sem,hn2,hn3,m0,m1,m2,termV,mkS_nil]) rfl ?_
    rw [show (term true s) = some (⟨tk,tx,te⟩,q) from HD1.out]
    exact ⟨⟨rfl,HFt.out⟩,((HS4.out.other (by omega) (by omega) _).other (by omega) (by omega) _).other (by omega) (by omega) _⟩
   | false =>
    have HD1:=Lib.hid (HD.out.trans (if_neg (by rw [hi];decide)))
    clear hi HD
    go_wp2_with fail
    refine (fail_calls rb q false _ HS3.out.at').mono ?_
    rintro e w5 ⟨rfl,hs5⟩
    have HS5:=Lib.hid (HS3.out.trans hs5)
    have HX3:=Lib.hid (HU3.out.grown hs5.grown hn3)
    have HX2:=Lib.hid (HU2.out.grown hs5.grown hn2)
    clear hs5 k0 k1 k2 l0 l1 l2 m0 m1 m2 n0 n1 n2
    go_wp2_with fail
    refine (blanks_calls rb [] true _ HS5.out.at').mono ?_
    rintro e w4 ⟨rfl,hs4⟩
    have HS4:=Lib.hid (HS5.out.trans hs4)
    have HV3:=Lib.hid (HX3.out.grown hs4.grown hn3)
    have HV2:=Lib.hid (HX2.out.grown hs4.grown hn2)
    obtain ⟨k0,k1,k2,l0,l1,l2⟩:=HV3.out
    obtain ⟨m0,m1,m2,n0,n1,n2⟩:=HV2.out
    simp only [Nat.zero_add] at k1 k2 l1 l2 m1 m2 n1 n2
    dsimp only [zeroT] at *
    clear hs4
    go_wp2
    refine bodyPost_ret (v:=termV ⟨tk,tx,te⟩) (by simp [results,Tryz.results148,go_sem,hn2,hn3,m0,m1,m2,termV,mkS_nil]) rfl ?_
    rw [show (term true s) = none from HD1.out]
    exact ⟨⟨_,rfl,HFt.out⟩,((HS4.out.other (by omega) (by omega) _).other (by omega) (by omega) _).other (by omega) (by omega) _⟩
set_option maxRecDepth 100000 in
set_option maxHeartbeats 1600000 in
theorem term_bad_calls (rb:Nat) (w:World) (h:At w rb [] true) :
  Calls Tryz.prog 148 #[.pointer (some ⟨rb,0,none⟩)] w fun e w'=>TermPost w rb none e w':=by
 have hlt:=h.lt
 have HT:=Lib.hid (two_zero (w:=w) w rfl)
 have HS0:=Lib.hid (((Step.refl h).alloc (.cells #[.int .i64 0,.string (mkS []),.string (mkS [])] 24)).alloc (.cells #[.int .i64 0,.string (mkS []),.string (mkS [])] 24))
 have hn2:¬ w.heap.size = rb:=by omega
 have hn3:¬ w.heap.size + 1 = rb:=by omega
 obtain ⟨a0,a1,b0,b1,_⟩:=h
 go_enter Tryz.func148,Tryz.ntmps148
 go_wp2_with fail
 refine (has_calls rb [] [60] true (by decide) _ HS0.out.at').mono ?_
 rintro e w2 ⟨rfl,rfl⟩
 rw [show ([60]:List UInt8).isPrefixOf [] = false from rfl]
 go_wp2_with fail
 refine (has_calls rb [] [95,58] true (by decide) _ HS0.out.at').mono ?_
 rintro e w2 ⟨rfl,rfl⟩
 rw [show ([95,58]:List UInt8).isPrefixOf [] = false from rfl]
 go_wp2_with fail
 refine (has_calls rb [] [34] true (by decide) _ HS0.out.at').mono ?_
 rintro e w2 ⟨rfl,rfl⟩
 rw [show ([34]:List UInt8).isPrefixOf [] = false from rfl]
 go_wp2_with fail
 refine (blanks_calls rb [] true _ HS0.out.at').mono ?_
 rintro e w4 ⟨rfl,hs4⟩
 have HS4:=Lib.hid (HS0.out.trans hs4)
 obtain ⟨k0,k1,k2,l0,l1,l2⟩:=HT.out.2.grown hs4.grown hn3
 obtain ⟨m0,m1,m2,n0,n1,n2⟩:=HT.out.1.grown hs4.grown hn2
 simp only [Nat.zero_add] at k1 k2 l1 l2 m1 m2 n1 n2
 dsimp only [zeroT] at *
 clear hs4
 go_wp2
 refine bodyPost_ret (v:=termV zeroT) (by simp [results,Tryz.results148,go_sem,hn2,hn3,m0,m1,m2,termV,mkS_nil,zeroT]) rfl ?_
 exact ⟨⟨zeroT,rfl,by decide,by decide,by decide⟩,((HS4.out.other (by omega) (by omega) _).other (by omega) (by omega) _).other (by omega) (by omega) _⟩
end Go.Proofs.YtnplommdgfgboaaGreatDoor.Ref5
namespace Go.Proofs.YtnplommdgfgboaaGreatDoor.Ref5
open Go.RowKit Go.Lib B Rd Utf TermPure LinesPure Tx Env Tc
def AtO (w:World) (rb:Nat) (st:Option (List UInt8)):Prop:=At w rb (st.getD []) st.isNone
def StepO (w w':World) (rb:Nat) (st:Option (List UInt8)):Prop:=Step w w' rb (st.getD []) st.isNone
def Next (ref:Bool) (st:Option (List UInt8)) (t:Term) (st':Option (List UInt8)):Prop:=match st with
 | none=>st' = none
 | some s=>match term ref s with
  | none=>st' = none
  | some (t0,q)=>t = t0∧st' = some (blanks q)
theorem term_any_calls (rb:Nat) (st:Option (List UInt8)) (w:World) (he:Env w) (hrb:lowB ≤ rb) (h:AtO w rb st) :
  Calls Tryz.prog 148 #[.pointer (some ⟨rb,0,none⟩)] w fun e w'=>∃ t st',(e = .returned (termV t)∧Fits t)∧StepO w w' rb st'∧Next true st t st':=by
 cases st with
 | none =>
  refine (term_bad_calls rb w h).mono ?_
  rintro e w' ⟨⟨t,h1,h2⟩,h3⟩
  exact ⟨t,none,⟨h1,h2⟩,h3,rfl⟩
 | some s =>
  refine (term_calls rb s w he hrb h).mono ?_
  intro e w' hp
  unfold Next
  dsimp only
  cases ht:term true s with
  | none =>
   rw [ht] at hp
   obtain ⟨⟨t,h1,h2⟩,h3⟩:=hp
   exact ⟨t,none,⟨h1,h2⟩,h3,rfl⟩
  | some p =>
   obtain ⟨t,q⟩:=p
   rw [ht] at hp
   obtain ⟨⟨h1,h2⟩,h3⟩:=hp
   exact ⟨t,some (blanks q),⟨h1,h2⟩,h3,rfl,rfl⟩
def lineEnd (t:Triple) (st:Option (List UInt8)):Option (Option Triple):=match st with
 | none=>none
 | some r=>if [46].isPrefixOf r = true∧over (blanks (r.drop 1)) = true∧isTriple t = true then some (some t) else none
theorem one_by (ref:Bool) (s:List UInt8) (hv:validD s = true) (ho:over (blanks s) = false) {a p o:Term} {s1 s2 s3:Option (List UInt8)} (h1:Next ref (some (blanks s)) a s1) (h2:Next ref s1 p s2) (h3:Next ref s2 o s3) :
  lineOf ref s = lineEnd ⟨a,p,o⟩ s3:=by
 rw [lineOf,hv,ho]
 simp only [Bool.true_eq_false,Bool.false_eq_true,if_false]
 unfold Next at h1
 dsimp only at h1
 cases t1:term ref (blanks s) with
 | none =>
  rw [t1] at h1
  dsimp only at h1
  subst h1
  have:s2 = none:=h2
  subst this
  have:s3 = none:=h3
  subst this
  rfl
 | some q1 =>
  obtain ⟨a',r1⟩:=q1
  rw [t1] at h1
  obtain ⟨rfl,rfl⟩:=h1
  unfold Next at h2
  dsimp only at h2 ⊢
  cases t2:term ref (blanks r1) with
  | none =>
   rw [t2] at h2
   dsimp only at h2
   subst h2
   have:s3 = none:=h3
   subst this
   rfl
  | some q2 =>
   obtain ⟨p',r2⟩:=q2
   rw [t2] at h2
   obtain ⟨rfl,rfl⟩:=h2
   unfold Next at h3
   dsimp only at h3 ⊢
   cases t3:term ref (blanks r2) with
   | none =>
    rw [t3] at h3
    dsimp only at h3
    subst h3
    rfl
   | some q3 =>
    obtain ⟨o',r3⟩:=q3
    rw [t3] at h3
    obtain ⟨rfl,rfl⟩:=h3
    rfl
structure T9 (W:World) (g:Nat) (t:Triple):Prop where
 s:TC W g 0 t.s
 p:TC W g 3 t.p
 o:TC W g 6 t.o
def zeroTr:Triple:=⟨zeroT,zeroT,zeroT⟩
def oneV (r:Option (Option Triple)):Value:=match r with
 | none=>.tuple #[tripleV zeroTr,.bool false,.bool false]
 | some none=>.tuple #[tripleV zeroTr,.bool false,.bool true]
 | some (some t)=>.tuple #[tripleV t,.bool true,.bool true]
def FitsO (r:Option (Option Triple)):Prop:=∀ t,r = some (some t) → FitsT t
theorem T9.other {W:World} {g g' j:Nat} {t:Triple} (h:T9 W g t) (hne:¬ g = g') (u:Value):T9 (W.setCell ⟨g',j,none⟩ u) g t:=⟨h.s.other hne u,h.p.other hne u,h.o.other hne u⟩
theorem T9.below {W W1:World} {g:Nat} {t:Triple} (h:T9 W g t) (hb:Below W.heap.size W W1):T9 W1 g t:=⟨h.s.below hb,h.p.below hb,h.o.below hb⟩
theorem T9.grown {W W1:World} {g rb:Nat} {t:Triple} (h:T9 W g t) (hg:W.grownBy W1 (some rb)) (hne:¬ g = rb):T9 W1 g t:=⟨h.s.grown hg hne,h.p.grown hg hne,h.o.grown hg hne⟩
theorem T9.alloc {W:World} {g:Nat} {t:Triple} (h:T9 W g t) (x:Obj):T9 (W.alloc x) g t:=⟨h.s.alloc x,h.p.alloc x,h.o.alloc x⟩
theorem T9.new (w:World) (t:Triple):T9 (w.alloc (.cells #[.int .i64 t.s.kind,.string (mkS t.s.text),.string (mkS t.s.extra),.int .i64 t.p.kind,.string (mkS t.p.text),.string (mkS t.p.extra),.int .i64 t.o.kind,.string (mkS t.o.text),.string (mkS t.o.extra)] 36)) w.heap.size t:=by
 constructor <;> constructor
 all_goals first | (unfold World.cell?;dsimp only;rw [Kd.heap_new];rfl) | (unfold World.frozen?;dsimp only;rw [Kd.heap_new];rfl)
theorem T9.setP {W:World} {g:Nat} {a p0 o0:Term} (h:T9 W g ⟨a,p0,o0⟩) (p:Term):T9 (((W.setCell ⟨g,3,none⟩ (.int .i64 p.kind)).setCell ⟨g,4,none⟩ (.string (mkS p.text))).setCell ⟨g,5,none⟩ (.string (mkS p.extra))) g ⟨a,p,o0⟩:=
 ⟨((h.s.apart (by decide) (by decide) (by decide) _).apart (by decide) (by decide) (by decide) _).apart (by decide) (by decide) (by decide) _,h.p.set p,
  ((h.o.apart (by decide) (by decide) (by decide) _).apart (by decide) (by decide) (by decide) _).apart (by decide) (by decide) (by decide) _⟩
theorem T9.setO {W:World} {g:Nat} {a p0 o0:Term} (h:T9 W g ⟨a,p0,o0⟩) (o:Term):T9 (((W.setCell ⟨g,6,none⟩ (.int .i64 o.kind)).setCell ⟨g,7,none⟩ (.string (mkS o.text))).setCell ⟨g,8,none⟩ (.string (mkS o.extra))) g ⟨a,p0,o⟩:=
 ⟨((h.s.apart (by decide) (by decide) (by decide) _).apart (by decide) (by decide) (by decide) _).apart (by decide) (by decide) (by decide) _,
  ((h.p.apart (by decide) (by decide) (by decide) _).apart (by decide) (by decide) (by decide) _).apart (by decide) (by decide) (by decide) _,h.o.set o⟩
theorem At.new (w:World) (s:List UInt8) (bad:Bool) (T:TypeId) (hs:s.length ≤ 70368744177664):At (w.alloc (.cells #[.string (mkS s),.bool bad] T)) w.heap.size s bad:=by
 refine ⟨?_,?_,?_,?_,hs⟩
 all_goals first | (unfold World.cell?;dsimp only;rw [Kd.heap_new];rfl) | (unfold World.frozen?;dsimp only;rw [Kd.heap_new];rfl)
set_option maxRecDepth 100000 in
set_option maxHeartbeats 6400000 in
theorem one_calls (s:List UInt8) (hs:s.length ≤ 70368744177664) (w:World) (he:Env w) :
  Calls Tryz.prog 108 #[.string (mkS s)] w fun e w'=>(e = .returned (oneV (lineOf true s))∧FitsO (lineOf true s))∧Below w.heap.size w w':=by
 have hlow:=he.low
 have zs:=mkS_toList s
 have HB0:=Lib.hid (bel_alloc (Below.refl w.heap.size w) (.cells #[.int .i64 0,.string (mkS []),.string (mkS []),.int .i64 0,.string (mkS []),.string (mkS []),.int .i64 0,.string (mkS []),.string (mkS [])] 36))
 have HT0:=Lib.hid (T9.new w zeroTr)
 have HE0:=Lib.hid (he.below HB0.out)
 clear he
 go_enter Tryz.func108,Tryz.ntmps108
 go_wp2_with fail
 refine (valid_calls s (by omega) _ HE0.out).mono ?_
 rintro e w1 ⟨rfl,hb1⟩
 have HB1:=Lib.hid (bel_step HB0.out hb1)
 have HT1:=Lib.hid (HT0.out.below hb1)
 have HE1:=Lib.hid (HE0.out.below hb1)
 have hz1:w.heap.size < w1.heap.size:=HT1.out.s.lt
 have hrb:lowB ≤ w1.heap.size:=by omega
 have hn2:¬ w.heap.size = w1.heap.size:=by omega
 have hn2':¬ w1.heap.size = w.heap.size:=by omega
 clear hb1
 cases hv:validD s with
 | false =>
  have HO:Hid (lineOf true s = none):=Lib.hid (by rw [lineOf,if_pos hv])
  obtain ⟨⟨p0,p1,p2,p9,p10,p11⟩,⟨p3,p4,p5,p12,p13,p14⟩,⟨p6,p7,p8,p15,p16,p17⟩⟩:=HT1.out
  simp only [Nat.zero_add,Nat.reduceAdd] at p1 p2 p4 p5 p7 p8 p10 p11 p13 p14 p16 p17
  dsimp only [zeroTr,zeroT] at *
  clear hv
  go_wp2
  refine bodyPost_ret (v:=oneV none) (by simp [results,Tryz.results108,go_sem,p0,p1,p2,p3,p4,p5,p6,p7,p8,oneV,tripleV,zeroTr,zeroT,mkS_nil]) rfl ?_
  rw [HO.out]
  refine ⟨⟨rfl,fun t ht=>by cases ht⟩,?_⟩
  exact bel_set (bel_set (bel_set (bel_set (bel_set (bel_set (bel_set (bel_set (bel_set HB1.out (Nat.le_refl _) _) (Nat.le_refl _) _) (Nat.le_refl _) _) (Nat.le_refl _) _) (Nat.le_refl _) _) (Nat.le_refl _) _) (Nat.le_refl _) _) (Nat.le_refl _) _) (Nat.le_refl _) _
 | true =>
  have HS1:=Lib.hid (Step.refl (At.new w1 s false 200 hs))
  have HB2:=Lib.hid (bel_alloc HB1.out (.cells #[.string (mkS s),.bool false] 200))
  have HT2:=Lib.hid (HT1.out.alloc (.cells #[.string (mkS s),.bool false] 200))
  have HE2:=Lib.hid (HE1.out.below (bel_alloc (Below.refl _ _) (.cells #[.string (mkS s),.bool false] 200)))
  have HO1:Hid (over (blanks s) = true → lineOf true s = some none):=Lib.hid (fun h=>by rw [lineOf,hv,h];rfl)
  have HO2:=Lib.hid (fun (ho:over (blanks s) = false) (a p o:Term) (s1 s2 s3:Option (List UInt8)) h1 h2 h3=>one_by true s hv ho (a:=a) (p:=p) (o:=o) (s1:=s1) (s2:=s2) (s3:=s3) h1 h2 h3)
  clear hv
  go_wp2_with fail
  refine (blanks_calls _ s false _ HS1.out.at').mono ?_
  rintro e w2 ⟨rfl,hs2⟩
  have HS2:=Lib.hid hs2
  have HT3:=Lib.hid (HT2.out.grown hs2.grown hn2)
  have HE3:=Lib.hid (HE2.out.grown hs2.grown hrb)
  have hz2:w1.heap.size < w2.heap.size:=hs2.at'.lt
  clear hs2
  generalize blanks s = l at *
  have zl:=mkS_toList l
  have hov:Hid (over l = (decide (l = []) || ([35]:List UInt8).isPrefixOf l)):=Lib.hid rfl
  obtain ⟨a0,a1,b0,b1,_⟩:=HS2.out.at'
  go_upto_region 5 with fail
  go_cut [24] (fun v24 wx=>v24 = .bool (over l)∧wx = w2)
  case first =>
   cases l with
   | nil =>
    go_wp2
    go_meet
    exact ⟨rfl,by first | rfl | trivial⟩
   | cons b t =>
    have hE:(b :: t).isEmpty = false:=rfl
    have hE':¬ (b :: t) = []:=by simp
    have hb:=Lib.hid (show over (b :: t) = ([35]:List UInt8).isPrefixOf (b :: t) by rw [hov.out];simp)
    generalize (b :: t:List UInt8) = L at *
    go_wp2_with fail
    refine (has_calls _ L [35] false (by decide) _ HS2.out.at').mono ?_
    rintro e w3 ⟨rfl,rfl⟩
    generalize ([35]:List UInt8).isPrefixOf L = r at *
    cases r
    all_goals go_wp2
    all_goals go_meet
    all_goals exact ⟨by rw [hb.out],by first | rfl | trivial⟩
  case rest =>
   obtain ⟨rfl,rfl⟩:=hcut
   clear zl hov a0 a1 b0 b1 zs
   cases ho:over l with
   | true =>
    have HO:=Lib.hid (HO1.out ho)
    obtain ⟨⟨p0,p1,p2,p9,p10,p11⟩,⟨p3,p4,p5,p12,p13,p14⟩,⟨p6,p7,p8,p15,p16,p17⟩⟩:=HT3.out
    simp only [Nat.zero_add,Nat.reduceAdd] at p1 p2 p4 p5 p7 p8 p10 p11 p13 p14 p16 p17
    dsimp only [zeroTr,zeroT] at *
    clear ho HO1 HO2
    go_wp2
    refine bodyPost_ret (v:=oneV (some none)) (by simp [results,Tryz.results108,go_sem,p0,p1,p2,p3,p4,p5,p6,p7,p8,oneV,tripleV,zeroTr,zeroT,mkS_nil]) rfl ?_
    rw [HO.out]
    refine ⟨⟨rfl,fun t ht=>by cases ht⟩,?_⟩
    exact (bel_set (bel_set (bel_set (bel_set (bel_set (bel_set (bel_set (bel_set (bel_set (HS2.out.seen HB2.out (by omega)) (Nat.le_refl _) _) (Nat.le_refl _) _) (Nat.le_refl _) _) (Nat.le_refl _) _) (Nat.le_refl _) _) (Nat.le_refl _) _) (Nat.le_refl _) _) (Nat.le_refl _) _) (Nat.le_refl _) _)
   | false =>
    have HO:=Lib.hid (HO2.out ho)
    clear ho HO1 HO2
    have hS2:StepO (w1.alloc (.cells #[.string (mkS s),.bool false] 200)) wc w1.heap.size (some l):=HS2.out
    go_wp2_with fail
    refine (term_any_calls _ (some l) _ HE3.out hrb hS2.at').mono ?_
    rintro e w3 ⟨⟨ak,ax,ay⟩,s1,⟨rfl,fa⟩,hs3,hn1⟩
    unfold termV
    have HS3:=Lib.hid (hS2.trans hs3)
    have HT4:=Lib.hid (HT3.out.grown hs3.grown hn2)
    have HE4:=Lib.hid (HE3.out.grown hs3.grown hrb)
    have hz3:w1.heap.size < w3.heap.size:=hs3.at'.lt
    have FA:=Lib.hid fa
    have N1:=Lib.hid hn1
    clear hS2 hs3 hn1 fa
    have hn3:¬ w3.heap.size = w1.heap.size:=by omega
    have hn4:¬ w3.heap.size = w.heap.size:=by omega
    have hn4':¬ w.heap.size = w3.heap.size:=by omega
    have HU4:=Lib.hid (T9.new w3 ⟨⟨ak,ax,ay⟩,zeroT,zeroT⟩)
    have HS4:=Lib.hid (HS3.out.alloc (.cells #[.int .i64 ak,.string (mkS ax),.string (mkS ay),.int .i64 0,.string (mkS []),.string (mkS []),.int .i64 0,.string (mkS []),.string (mkS [])] 36))
    have HT5:=Lib.hid (HT4.out.alloc (.cells #[.int .i64 ak,.string (mkS ax),.string (mkS ay),.int .i64 0,.string (mkS []),.string (mkS []),.int .i64 0,.string (mkS []),.string (mkS [])] 36))
    have HE5:=Lib.hid (HE4.out.below (bel_alloc (Below.refl _ _) (.cells #[.int .i64 ak,.string (mkS ax),.string (mkS ay),.int .i64 0,.string (mkS []),.string (mkS []),.int .i64 0,.string (mkS []),.string (mkS [])] 36)))
    go_wp2_with fail
    refine (term_any_calls _ s1 _ HE5.out hrb HS4.out.at').mono ?_
    rintro e w4 ⟨⟨bk,bx,bY⟩,s2,⟨rfl,fb⟩,hs5,hm⟩
    unfold termV
    have HS5:=Lib.hid (HS4.out.trans hs5)
    have HU5:=Lib.hid (HU4.out.grown hs5.grown hn3)
    have HT6:=Lib.hid (HT5.out.grown hs5.grown hn2)
    have HE6:=Lib.hid (HE5.out.grown hs5.grown hrb)
    have hz4:w3.heap.size < w4.heap.size:=HU5.out.s.lt
    have FB:=Lib.hid fb
    have N2:=Lib.hid hm
    clear hs5 hm fb
    obtain ⟨⟨u0,u1,u2,u9,u10,u11⟩,⟨u3,u4,u5,u12,u13,u14⟩,⟨u6,u7,u8,u15,u16,u17⟩⟩:=HU5.out
    simp only [Nat.zero_add,Nat.reduceAdd] at u1 u2 u4 u5 u7 u8 u10 u11 u13 u14 u16 u17
    dsimp only [zeroTr,zeroT] at *
    have HS6:Hid (StepO (w1.alloc (.cells #[.string (mkS s),.bool false] 200)) _ w1.heap.size s2):=Lib.hid (((HS5.out.other (g:=w3.heap.size) (j:=3) (by simp;omega) hn3 (.int .i64 bk)).other (g:=w3.heap.size) (j:=4) (by simp;omega) hn3 (.string (mkS bx))).other (g:=w3.heap.size) (j:=5) (by simp;omega) hn3 (.string (mkS bY)))
    have HU6:=Lib.hid (HU5.out.setP ⟨bk,bx,bY⟩)
    have HT7:=Lib.hid (((HT6.out.other (g':=w3.heap.size) (j:=3) hn4' (.int .i64 bk)).other (g':=w3.heap.size) (j:=4) hn4' (.string (mkS bx))).other (g':=w3.heap.size) (j:=5) hn4' (.string (mkS bY)))
    have HE7:=Lib.hid (((HE6.out.set (g:=w3.heap.size) (j:=3) (by omega) (.int .i64 bk)).set (g:=w3.heap.size) (j:=4) (by omega) (.string (mkS bx))).set (g:=w3.heap.size) (j:=5) (by omega) (.string (mkS bY)))
    go_wp2_with fail
    refine (term_any_calls _ s2 _ HE7.out hrb HS6.out.at').mono ?_
    rintro e w5 ⟨⟨ck,cx,cy⟩,s3,⟨rfl,fc⟩,hs7,hm⟩
    unfold termV
    clear u0 u1 u2 u3 u4 u5 u6 u7 u8 u9 u10 u11 u12 u13 u14 u15 u16 u17
    have HS7:=Lib.hid (HS6.out.trans hs7)
    have HU7:=Lib.hid (HU6.out.grown hs7.grown hn3)
    have HT8:=Lib.hid (HT7.out.grown hs7.grown hn2)
    have HE8:=Lib.hid (HE7.out.grown hs7.grown hrb)
    have hz5:w3.heap.size < w5.heap.size:=HU7.out.s.lt
    have FC:=Lib.hid fc
    have HO3:=Lib.hid (HO.out _ _ _ _ _ _ N1.out N2.out hm)
    clear hs7 hm fc HO N1 N2
    obtain ⟨⟨u0,u1,u2,u9,u10,u11⟩,⟨u3,u4,u5,u12,u13,u14⟩,⟨u6,u7,u8,u15,u16,u17⟩⟩:=HU7.out
    simp only [Nat.zero_add,Nat.reduceAdd] at u1 u2 u4 u5 u7 u8 u10 u11 u13 u14 u16 u17
    dsimp only [zeroTr,zeroT] at *
    have HS8:Hid (StepO (w1.alloc (.cells #[.string (mkS s),.bool false] 200)) _ w1.heap.size s3):=Lib.hid (((HS7.out.other (g:=w3.heap.size) (j:=6) (by simp;omega) hn3 (.int .i64 ck)).other (g:=w3.heap.size) (j:=7) (by simp;omega) hn3 (.string (mkS cx))).other (g:=w3.heap.size) (j:=8) (by simp;omega) hn3 (.string (mkS cy)))
    have HU8:=Lib.hid (HU7.out.setO ⟨ck,cx,cy⟩)
    have HT9:=Lib.hid (((HT8.out.other (g':=w3.heap.size) (j:=6) hn4' (.int .i64 ck)).other (g':=w3.heap.size) (j:=7) hn4' (.string (mkS cx))).other (g':=w3.heap.size) (j:=8) hn4' (.string (mkS cy)))
    have HE9:=Lib.hid (((HE8.out.set (g:=w3.heap.size) (j:=6) (by omega) (.int .i64 ck)).set (g:=w3.heap.size) (j:=7) (by omega) (.string (mkS cx))).set (g:=w3.heap.size) (j:=8) (by omega) (.string (mkS cy)))
    go_upto_region 10 with fail
    clear u0 u1 u2 u3 u4 u5 u6 u7 u8 u9 u10 u11 u12 u13 u14 u15 u16 u17
    have hz6:w3.heap.size < w5.heap.size:=hz5
    generalize (((w5.setCell ⟨w3.heap.size,6,none⟩ (.int .i64 ck)).setCell ⟨w3.heap.size,7,none⟩ (.string (mkS cx))).setCell ⟨w3.heap.size,8,none⟩ (.string (mkS cy))) = w6 at *
    have hz7:w3.heap.size < w6.heap.size:=HU8.out.s.lt
    clear HS7 HU7 HT8 HE8 HS6 HU6 HT7 HE7 HS5 HU5 HT6 HE6 HS4 HU4 HT5 HE5 HS3 HT4 HE4 HS2 HT3 HE3 HT2 HE2 HT1 HE1 HT0 HE0 HB1 HB0 HS1
    cases s3 with
    | none =>
     have HN:Hid (lineOf true s = none):=HO3
     obtain ⟨a0,a1,b0,b1,_⟩:=HS8.out.at'
     dsimp only [Option.isNone,Option.getD] at a0 a1
     obtain ⟨⟨p0,p1,p2,p9,p10,p11⟩,⟨p3,p4,p5,p12,p13,p14⟩,⟨p6,p7,p8,p15,p16,p17⟩⟩:=HT9.out
     simp only [Nat.zero_add,Nat.reduceAdd] at p1 p2 p4 p5 p7 p8 p10 p11 p13 p14 p16 p17
     dsimp only [zeroTr,zeroT] at *
     obtain ⟨⟨u0,u1,u2,u9,u10,u11⟩,⟨u3,u4,u5,u12,u13,u14⟩,⟨u6,u7,u8,u15,u16,u17⟩⟩:=HU8.out
     simp only [Nat.zero_add,Nat.reduceAdd] at u1 u2 u4 u5 u7 u8 u10 u11 u13 u14 u16 u17
     dsimp only [zeroTr,zeroT] at *
     clear HO3
     go_wp2
     refine bodyPost_ret (v:=oneV none) (by simp [results,Tryz.results108,go_sem,p0,p1,p2,p3,p4,p5,p6,p7,p8,oneV,tripleV,zeroTr,zeroT,mkS_nil]) rfl ?_
     rw [HN.out]
     refine ⟨⟨rfl,fun t ht=>by cases ht⟩,?_⟩
     exact (bel_set (bel_set (bel_set (bel_set (bel_set (bel_set (bel_set (bel_set (bel_set (HS8.out.seen HB2.out (by omega)) (Nat.le_refl _) _) (Nat.le_refl _) _) (Nat.le_refl _) _) (Nat.le_refl _) _) (Nat.le_refl _) _) (Nat.le_refl _) _) (Nat.le_refl _) _) (Nat.le_refl _) _) (Nat.le_refl _) _)
    | some r =>
     have HN:Hid (lineOf true s = if [46].isPrefixOf r = true∧over (blanks (r.drop 1)) = true∧isTriple ⟨⟨ak,ax,ay⟩,⟨bk,bx,bY⟩,⟨ck,cx,cy⟩⟩ = true then some (some ⟨⟨ak,ax,ay⟩,⟨bk,bx,bY⟩,⟨ck,cx,cy⟩⟩) else none):=HO3
     have HS9:Hid (Step (w1.alloc (.cells #[.string (mkS s),.bool false] 200)) w6 w1.heap.size r false):=HS8
     obtain ⟨a0,a1,b0,b1,hrl⟩:=HS9.out.at'
     have zr:=mkS_size r
     obtain ⟨⟨p0,p1,p2,p9,p10,p11⟩,⟨p3,p4,p5,p12,p13,p14⟩,⟨p6,p7,p8,p15,p16,p17⟩⟩:=HT9.out
     simp only [Nat.zero_add,Nat.reduceAdd] at p1 p2 p4 p5 p7 p8 p10 p11 p13 p14 p16 p17
     dsimp only [zeroTr,zeroT] at *
     obtain ⟨⟨u0,u1,u2,u9,u10,u11⟩,⟨u3,u4,u5,u12,u13,u14⟩,⟨u6,u7,u8,u15,u16,u17⟩⟩:=HU8.out
     simp only [Nat.zero_add,Nat.reduceAdd] at u1 u2 u4 u5 u7 u8 u10 u11 u13 u14 u16 u17
     dsimp only [zeroTr,zeroT] at *
     clear HO3 HS8
     go_wp2_with fail
     refine (has_calls _ r [46] false (by decide) _ HS9.out.at').mono ?_
     rintro e w7 ⟨rfl,rfl⟩
     cases hd:([46]:List UInt8).isPrefixOf r with
     | false =>
      have HN1:Hid (lineOf true s = none):=Lib.hid (HN.out.trans (if_neg (fun h=>by rw [hd] at h;exact absurd h.1 (by decide))))
      clear hd HN
      go_wp2
      refine bodyPost_ret (v:=oneV none) (by simp [results,Tryz.results108,go_sem,p0,p1,p2,p3,p4,p5,p6,p7,p8,oneV,tripleV,zeroTr,zeroT,mkS_nil]) rfl ?_
      rw [HN1.out]
      refine ⟨⟨rfl,fun t ht=>by cases ht⟩,?_⟩
      exact (bel_set (bel_set (bel_set (bel_set (bel_set (bel_set (bel_set (bel_set (bel_set (HS9.out.seen HB2.out (by omega)) (Nat.le_refl _) _) (Nat.le_refl _) _) (Nat.le_refl _) _) (Nat.le_refl _) _) (Nat.le_refl _) _) (Nat.le_refl _) _) (Nat.le_refl _) _) (Nat.le_refl _) _) (Nat.le_refl _) _)
     | true =>
      go_wp2_with fail
      refine (is5_calls ⟨⟨ak,ax,ay⟩,⟨bk,bx,bY⟩,⟨ck,cx,cy⟩⟩ ⟨FA.out,FB.out,FC.out⟩ _ HE9.out).mono ?_
      rintro e w8 ⟨rfl,hb8⟩
      have HS10:=Lib.hid (HS9.out.below hb8)
      have HU10:=Lib.hid (HU8.out.below hb8)
      have HT10:=Lib.hid (HT9.out.below hb8)
      clear u0 u1 u2 u3 u4 u5 u6 u7 u8 u9 u10 u11 u12 u13 u14 u15 u16 u17
      clear p0 p1 p2 p3 p4 p5 p6 p7 p8 p9 p10 p11 p12 p13 p14 p15 p16 p17
      clear a0 a1 b0 b1 hb8
      obtain ⟨a0,a1,b0,b1,_⟩:=HS10.out.at'
      obtain ⟨⟨p0,p1,p2,p9,p10,p11⟩,⟨p3,p4,p5,p12,p13,p14⟩,⟨p6,p7,p8,p15,p16,p17⟩⟩:=HT10.out
      simp only [Nat.zero_add,Nat.reduceAdd] at p1 p2 p4 p5 p7 p8 p10 p11 p13 p14 p16 p17
      dsimp only [zeroTr,zeroT] at *
      obtain ⟨⟨u0,u1,u2,u9,u10,u11⟩,⟨u3,u4,u5,u12,u13,u14⟩,⟨u6,u7,u8,u15,u16,u17⟩⟩:=HU10.out
      simp only [Nat.zero_add,Nat.reduceAdd] at u1 u2 u4 u5 u7 u8 u10 u11 u13 u14 u16 u17
      dsimp only [zeroTr,zeroT] at *
      cases hi:isTriple ⟨⟨ak,ax,ay⟩,⟨bk,bx,bY⟩,⟨ck,cx,cy⟩⟩ with
      | false =>
       have HN1:Hid (lineOf true s = none):=Lib.hid (HN.out.trans (if_neg (fun h=>by rw [hi] at h;exact absurd h.2.2 (by decide))))
       clear hd hi HN
       go_wp2
       refine bodyPost_ret (v:=oneV none) (by simp [results,Tryz.results108,go_sem,p0,p1,p2,p3,p4,p5,p6,p7,p8,oneV,tripleV,zeroTr,zeroT,mkS_nil]) rfl ?_
       rw [HN1.out]
       refine ⟨⟨rfl,fun t ht=>by cases ht⟩,?_⟩
       exact (bel_set (bel_set (bel_set (bel_set (bel_set (bel_set (bel_set (bel_set (bel_set (HS10.out.seen HB2.out (by omega)) (Nat.le_refl _) _) (Nat.le_refl _) _) (Nat.le_refl _) _) (Nat.le_refl _) _) (Nat.le_refl _) _) (Nat.le_refl _) _) (Nat.le_refl _) _) (Nat.le_refl _) _) (Nat.le_refl _) _)
      | true =>
       have hl1:=prefix_len _ _ hd
       have hx:=drop1 r
       have hi1:(1:Int) ≤ (r.length:Int):=by simp at hl1;omega
       replace HN:=Lib.hid (show lineOf true s = if over (blanks (r.drop 1)) = true then some (some ⟨⟨ak,ax,ay⟩,⟨bk,bx,bY⟩,⟨ck,cx,cy⟩⟩) else none by rw [HN.out,hd,hi];simp)
       obtain ⟨q,hq⟩:∃ q,r.drop 1 = q:=⟨_,rfl⟩
       have hql:q.length ≤ r.length:=by rw [← hq];simp
       rw [hq] at HN hx
       clear hd hi hq
       have HS11:=Lib.hid (HS10.out.set0 (t:=q) (by omega))
       have HU11:=Lib.hid (HU10.out.other (j:=0) hn3 (.string (mkS q)))
       have HT11:=Lib.hid (HT10.out.other (j:=0) hn2 (.string (mkS q)))
       go_wp2_with fail
       refine (blanks_calls _ q false _ HS11.out.at').mono ?_
       rintro e w9 ⟨rfl,hs9⟩
       have HS12:=Lib.hid (HS11.out.trans hs9)
       have HU12:=Lib.hid (HU11.out.grown hs9.grown hn3)
       have HT12:=Lib.hid (HT11.out.grown hs9.grown hn2)
       clear u0 u1 u2 u3 u4 u5 u6 u7 u8 u9 u10 u11 u12 u13 u14 u15 u16 u17
       clear p0 p1 p2 p3 p4 p5 p6 p7 p8 p9 p10 p11 p12 p13 p14 p15 p16 p17
       clear a0 a1 b0 b1 hs9
       obtain ⟨a0,a1,b0,b1,_⟩:=HS12.out.at'
       obtain ⟨⟨p0,p1,p2,p9,p10,p11⟩,⟨p3,p4,p5,p12,p13,p14⟩,⟨p6,p7,p8,p15,p16,p17⟩⟩:=HT12.out
       simp only [Nat.zero_add,Nat.reduceAdd] at p1 p2 p4 p5 p7 p8 p10 p11 p13 p14 p16 p17
       dsimp only [zeroTr,zeroT] at *
       obtain ⟨⟨u0,u1,u2,u9,u10,u11⟩,⟨u3,u4,u5,u12,u13,u14⟩,⟨u6,u7,u8,u15,u16,u17⟩⟩:=HU12.out
       simp only [Nat.zero_add,Nat.reduceAdd] at u1 u2 u4 u5 u7 u8 u10 u11 u13 u14 u16 u17
       dsimp only [zeroTr,zeroT] at *
       generalize blanks q = l at *
       have zl:=mkS_toList l
       cases l with
       | nil =>
        have HN1:Hid (lineOf true s = some (some ⟨⟨ak,ax,ay⟩,⟨bk,bx,bY⟩,⟨ck,cx,cy⟩⟩)):=HN
        clear HN
        go_wp2
        refine bodyPost_ret (v:=oneV (some (some ⟨⟨ak,ax,ay⟩,⟨bk,bx,bY⟩,⟨ck,cx,cy⟩⟩))) (by simp [results,Tryz.results108,go_sem,p0,p1,p2,p3,p4,p5,p6,p7,p8,oneV,tripleV,zeroTr,zeroT,mkS_nil]) rfl ?_
        rw [HN1.out]
        refine ⟨⟨rfl,fun t ht=>by cases ht;exact ⟨FA.out,FB.out,FC.out⟩⟩,?_⟩
        exact (bel_set (bel_set (bel_set (bel_set (bel_set (bel_set (bel_set (bel_set (bel_set (HS12.out.seen HB2.out (by omega)) (Nat.le_refl _) _) (Nat.le_refl _) _) (Nat.le_refl _) _) (Nat.le_refl _) _) (Nat.le_refl _) _) (Nat.le_refl _) _) (Nat.le_refl _) _) (Nat.le_refl _) _) (Nat.le_refl _) _)
       | cons b t =>
        have hE:(b :: t).isEmpty = false:=rfl
        have hE':¬ (b :: t) = []:=by simp
        have hb:Hid (over (b :: t) = ([35]:List UInt8).isPrefixOf (b :: t)):=Lib.hid (by rw [over];simp)
        generalize (b :: t:List UInt8) = L at *
        go_wp2_with fail
        refine (has_calls _ L [35] false (by decide) _ HS12.out.at').mono ?_
        rintro e w10 ⟨rfl,rfl⟩
        rw [hb.out] at HN
        clear hb
        cases hp:([35]:List UInt8).isPrefixOf L with
        | true =>
         have HN1:Hid (lineOf true s = some (some ⟨⟨ak,ax,ay⟩,⟨bk,bx,bY⟩,⟨ck,cx,cy⟩⟩)):=Lib.hid (HN.out.trans (if_pos hp))
         clear hp HN
         go_wp2
         refine bodyPost_ret (v:=oneV (some (some ⟨⟨ak,ax,ay⟩,⟨bk,bx,bY⟩,⟨ck,cx,cy⟩⟩))) (by simp [results,Tryz.results108,go_sem,p0,p1,p2,p3,p4,p5,p6,p7,p8,oneV,tripleV,zeroTr,zeroT,mkS_nil]) rfl ?_
         rw [HN1.out]
         refine ⟨⟨rfl,fun t ht=>by cases ht;exact ⟨FA.out,FB.out,FC.out⟩⟩,?_⟩
         exact (bel_set (bel_set (bel_set (bel_set (bel_set (bel_set (bel_set (bel_set (bel_set (HS12.out.seen HB2.out (by omega)) (Nat.le_refl _) _) (Nat.le_refl _) _) (Nat.le_refl _) _) (Nat.le_refl _) _) (Nat.le_refl _) _) (Nat.le_refl _) _) (Nat.le_refl _) _) (Nat.le_refl _) _) (Nat.le_refl _) _)
        | false =>
         have HN1:Hid (lineOf true s = none):=Lib.hid (HN.out.trans (if_neg (by rw [hp];decide)))
         clear hp HN
         go_wp2
         refine bodyPost_ret (v:=oneV none) (by simp [results,Tryz.results108,go_sem,p0,p1,p2,p3,p4,p5,p6,p7,p8,oneV,tripleV,zeroTr,zeroT,mkS_nil]) rfl ?_
         rw [HN1.out]
         refine ⟨⟨rfl,fun t ht=>by cases ht⟩,?_⟩
         exact (bel_set (bel_set (bel_set (bel_set (bel_set (bel_set (bel_set (bel_set (bel_set (HS12.out.seen HB2.out (by omega)) (Nat.le_refl _) _) (Nat.le_refl _) _) (Nat.le_refl _) _) (Nat.le_refl _) _) (Nat.le_refl _) _) (Nat.le_refl _) _) (Nat.le_refl _) _) (Nat.le_refl _) _) (Nat.le_refl _) _)
end Go.Proofs.YtnplommdgfgboaaGreatDoor.Ref5
namespace Go.Proofs.YtnplommdgfgboaaGreatDoor.Tri
open Go.RowKit Go.ChangeShapes Go.WideShapes Go.Deep B TermPure LinesPure Ref5
def termL (t:Term):List Value:=[.int .i64 t.kind,.string (mkS t.text),.string (mkS t.extra)]
def triL (t:Triple):List Value:=[.int .i64 t.s.kind,.string (mkS t.s.text),.string (mkS t.s.extra),.int .i64 t.p.kind,.string (mkS t.p.text),.string (mkS t.p.extra),.int .i64 t.o.kind,.string (mkS t.o.text),.string (mkS t.o.extra)]
theorem triL_eq (t:Triple):triL t = termL t.s ++ (termL t.p ++ termL t.o):=rfl
def FitsW (t:Term):Prop:=(-9223372036854775808 ≤ t.kind∧t.kind ≤ 9223372036854775807)∧t.text.length ≤ 140737488355328∧t.extra.length ≤ 140737488355328
def FitsW3 (t:Triple):Prop:=FitsW t.s∧FitsW t.p∧FitsW t.o
def termK:Kd Term:=held 3 (by decide) termL FitsW (fun _=>rfl) (fun t u hu=>by
 simp [termL] at hu
 rcases hu with rfl | rfl | rfl <;> rfl)
def triK:Kd Triple:=held 9 (by decide) triL FitsW3 (fun _=>rfl) (fun t u hu=>by
 simp [triL] at hu
 rcases hu with rfl | rfl | rfl | rfl | rfl | rfl | rfl | rfl | rfl <;> rfl)
section
variable {P : Program} {t : TypeId}
end
end Go.Proofs.YtnplommdgfgboaaGreatDoor.Tri
namespace Go.Proofs.YtnplommdgfgboaaGreatDoor.TriEq
open Go.RowKit B Rd TermPure LinesPure Ref5
theorem eq_term (x y:Term) (d:Nat) (w:World):(Op.equalIn (d + 2) 24 (termV x) (termV y)).run Tryz.prog w = .ok (decide (x = y)) w:=by
 have hS:Tryz.prog.underlying 24 = some (.struct (Tryz.prog.fieldsOf 24)):=by kernel_rfl
 have hp:Tryz.prog.stoodInHeld 24 = false:=by kernel_rfl
 have u3:=Tryz.underlying3
 have u9:=Tryz.underlying9
 have a3:=Tryz.isAgg3
 have z3:=Tryz.sizeOf3
 have a9:=Tryz.isAgg9
 have z9:=Tryz.sizeOf9
 obtain ⟨xk,xt,xe⟩:=x
 obtain ⟨yk,yt,ye⟩:=y
 unfold termV
 rw [run_equalIn_struct w (d + 1) 24 _ _ hS hp]
 simp only [Program.fieldsOf,Tryz.underlying24]
 go_simp
 simp only [mkS_toList]
 by_cases h1:xk = yk <;> by_cases h2:xt = yt <;> by_cases h3:xe = ye <;> simp [h1,h2,h3]
theorem eq_term' (x y:Term) (d:Nat) (w:World):(Op.equalIn (d + 2) 24 (.agg #[.int .i64 x.kind,.string (mkS x.text),.string (mkS x.extra)]) (.agg #[.int .i64 y.kind,.string (mkS y.text),.string (mkS y.extra)])).run Tryz.prog w = .ok (decide (x = y)) w:=eq_term x y d w
theorem run_eq_term (x y:Term) (w:World):(binOp .eql 24 (.agg #[.int .i64 x.kind,.string (mkS x.text),.string (mkS x.extra)]) (.agg #[.int .i64 y.kind,.string (mkS y.text),.string (mkS y.extra)])).run Tryz.prog w = .ok (.bool (decide (x = y))) w:=by
 rw [run_eql_struct,show (10000:Nat) = 9998 + 2 from rfl,eq_term']
 try rfl
theorem run_eq_tri (x y:Triple) (w:World):(binOp .eql 36 (tripleV x) (tripleV y)).run Tryz.prog w = .ok (.bool (decide (x = y))) w:=by
 have hS:Tryz.prog.underlying 36 = some (.struct (Tryz.prog.fieldsOf 36)):=by kernel_rfl
 have hp:Tryz.prog.stoodInHeld 36 = false:=by kernel_rfl
 have a23:=Tryz.isAgg24
 have z23:=Tryz.sizeOf24
 have e:=fun (x y:Term) w=>eq_term' x y 9997 w
 unfold tripleV
 rw [run_eql_struct,show (10000:Nat) = 9999 + 1 from rfl,run_equalIn_agg w 9999 36 _ _ hS hp]
 simp only [Program.fieldsOf,Tryz.underlying36]
 go_simp
 obtain ⟨a,b,c⟩:=x
 obtain ⟨a',b',c'⟩:=y
 by_cases h1:a = a' <;> by_cases h2:b = b' <;> by_cases h3:c = c' <;> simp [h1,h2,h3]
end Go.Proofs.YtnplommdgfgboaaGreatDoor.TriEq
namespace Go.Proofs.YtnplommdgfgboaaGreatDoor.Show
open Go.RowKit Go.Lib B Rd Utf TermPure Tx Env Bld
theorem hexD_all:∀ k:Fin 16,([48,49,50,51,52,53,54,55,56,57,65,66,67,68,69,70]:List UInt8).getD k.val 0 = hexD k.val:=by decide
theorem hexS (k:Nat) (hk:k < 16):(⟨#[48,49,50,51,52,53,54,55,56,57,65,66,67,68,69,70]⟩:ByteArray).extract k (k + 1) = mkS [hexD k]:=by
 have h:=mkS_extract [48,49,50,51,52,53,54,55,56,57,65,66,67,68,69,70] k (k + 1)
 rw [show k + 1 - k = 1 from by omega] at h
 refine Eq.trans h ?_
 congr 1
 have hl:k < ([48,49,50,51,52,53,54,55,56,57,65,66,67,68,69,70]:List UInt8).length:=hk
 have hd:=hexD_all ⟨k,hk⟩
 rw [List.getD_eq_getElem?_getD,List.getElem?_eq_getElem hl] at hd
 rw [List.drop_eq_getElem_cons hl,List.take_succ_cons,List.take_zero]
 exact congrArg (fun x=>[x]) hd
set_option maxHeartbeats 800000 in
theorem escaped_hex (n:Nat) (hn:n < 32 ∨ n = 127) (h8:n ≠ 8) (h9:n ≠ 9) (h10:n ≠ 10) (h12:n ≠ 12) (h13:n ≠ 13) (w:World) :
  Calls Tryz.prog 140 #[.int .u8 (n:Int)] w fun e w'=>e = .returned (.string (mkS [92,117,48,48,hexD (n / 16),hexD (n % 16)]))∧Below w.heap.size w w':=by
 have e1:((n:Int) == 34) = false:=by rw [beq_eq_false_iff_ne];omega
 have e2:((n:Int) == 92) = false:=by rw [beq_eq_false_iff_ne];omega
 have e3:((n:Int) == 10) = false:=by rw [beq_eq_false_iff_ne];omega
 have e4:((n:Int) == 13) = false:=by rw [beq_eq_false_iff_ne];omega
 have e5:((n:Int) == 9) = false:=by rw [beq_eq_false_iff_ne];omega
 have e6:((n:Int) == 8) = false:=by rw [beq_eq_false_iff_ne];omega
 have e7:((n:Int) == 12) = false:=by rw [beq_eq_false_iff_ne];omega
 have i0:(0:Int) ≤ (n:Int):=by omega
 have i1:(n:Int) ≤ 127:=by omega
 have H1:=Lib.hid (hexS (n / 16) (by omega))
 have H2:=Lib.hid (hexS (n % 16) (by omega))
 go_enter Tryz.func140,Tryz.ntmps140
 go_wp2
 go_quiet (fail)
 go_wp2
 go_ret
 exact ⟨(ret_str (by rw [H1.out,H2.out];rfl):Ending.returned (.string ((⟨#[92,117,48,48]⟩:ByteArray) ++ (⟨#[48,49,50,51,52,53,54,55,56,57,65,66,67,68,69,70]⟩:ByteArray).extract (n / 16) (n / 16 + 1) ++ (⟨#[48,49,50,51,52,53,54,55,56,57,65,66,67,68,69,70]⟩:ByteArray).extract (n % 16) (n % 16 + 1))) = .returned (.string (mkS [92,117,48,48,hexD (n / 16),hexD (n % 16)]))),bel_drewN (Below.refl _ _) _⟩
def short (n:Nat):UInt8:=if n = 10 then 110 else if n = 13 then 114 else if n = 9 then 116 else if n = 8 then 98 else 102
set_option maxHeartbeats 800000 in
theorem escaped_short (n:Nat) (h:n = 8 ∨ n = 9 ∨ n = 10 ∨ n = 12 ∨ n = 13) (w:World) :
  Calls Tryz.prog 140 #[.int .u8 (n:Int)] w fun e w'=>e = .returned (.string (mkS [92,short n]))∧Below w.heap.size w w':=by
 rcases h with rfl | rfl | rfl | rfl | rfl
 all_goals
  go_enter Tryz.func140,Tryz.ntmps140
  go_wp2
  go_ret
  exact ⟨rfl,Below.refl _ _⟩
set_option maxHeartbeats 800000 in
theorem escaped_sign (n:Nat) (h:n = 34 ∨ n = 92) (w:World) :
  Calls Tryz.prog 140 #[.int .u8 (n:Int)] w fun e w'=>e = .returned (.string (mkS [92,UInt8.ofNat n]))∧Below w.heap.size w w':=by
 rcases h with rfl | rfl
 all_goals
  go_enter Tryz.func140,Tryz.ntmps140
  go_wp2
  go_ret
  exact ⟨rfl,Below.refl _ _⟩
end Go.Proofs.YtnplommdgfgboaaGreatDoor.Show
namespace Go.Proofs.YtnplommdgfgboaaGreatDoor.Bw
open Go.RowKit Go.Lib B Rd Env Bld
def Bw (B b:Nat) (out:List UInt8) (w:World):Prop:=
 b < B∧∃ p v,(p = .pointer none ∨ p = .pointer (some ⟨b,0,none⟩))∧w.heap[b]? = some (.cells #[p,v] 161 (0,0))∧w.ownsRowF B 5 1 v out.length (Lib.byteCells out)
structure Keeps (B b:Nat) (w w':World):Prop where
 os:w'.os = w.os
 tape:w'.tape = w.tape
 output:w'.output = w.output
 size:w.heap.size ≤ w'.heap.size
 block:∀ k,k < B → k ≠ b → w'.heap[k]? = w.heap[k]?
theorem Keeps.trans {B b:Nat} {x y z:World} (h:Keeps B b x y) (k:Keeps B b y z):Keeps B b x z:=
 ⟨k.os.trans h.os,k.tape.trans h.tape,k.output.trans h.output,Nat.le_trans h.size k.size,fun i hi hne=>(k.block i hi hne).trans (h.block i hi hne)⟩
theorem Keeps.refl (B b:Nat) (w:World):Keeps B b w w:=⟨rfl,rfl,rfl,Nat.le_refl _,fun _ _ _=>rfl⟩
theorem Keeps.below {B b:Nat} {w0 w w':World} (h:Keeps B b w w') (hb:Below w0.heap.size w0 w) (h1:w0.heap.size ≤ b) (h2:w0.heap.size ≤ B):Below w0.heap.size w0 w':=
 ⟨h.os.trans hb.os,h.tape.trans hb.tape,h.output.trans hb.output,Nat.le_trans hb.size h.size,fun k hk=>(h.block k (Nat.lt_of_lt_of_le hk h2) (by omega)).trans (hb.block k hk)⟩
theorem Keeps.set (B:Nat) (w:World) (b j:Nat) (u:Value):Keeps B b w (w.setCell ⟨b,j,none⟩ u):=
 ⟨rfl,rfl,rfl,by rw [World.size_setCell];exact Nat.le_refl _,fun k _ hne=>by
  simp [World.setCell,Array.getElem?_modify]
  intro e
  exact absurd e.symm hne⟩
theorem Keeps.alloc {B b:Nat} (w:World) (o:Obj) (hB:B ≤ w.heap.size):Keeps B b w (w.alloc o):=
 ⟨rfl,rfl,rfl,by simp,fun k hk _=>Lib.alloc_old w o k (by omega)⟩
theorem lt_of {w:World} {k:Nat} {o:Obj} (h:w.heap[k]? = some o):k < w.heap.size:=(Array.getElem?_eq_some_iff.1 h).1
theorem heap_set {w:World} {b j:Nat} {C:Array Value} {T:TypeId} {fz:Nat × Nat} (h:w.heap[b]? = some (.cells C T fz)) (u:Value):(w.setCell ⟨b,j,none⟩ u).heap[b]? = some (.cells (C.setIfInBounds j u) T fz):=by
 have hlt:=lt_of h
 simp [World.setCell,Array.getElem?_modify,h]
theorem Bw.new {w:World} {b B:Nat} (hb:b < B) (h:w.heap[b]? = some (.cells #[.pointer none,.slice none 0 0] 161 (0,0))):Bw B b [] w:=
 ⟨hb,_,_,.inl rfl,h,World.ownsRowF_nil _ _ _ _⟩
theorem Bw.kept {B b:Nat} {out:List UInt8} {w w':World} (h:Bw B b out w) (hm:∀ k,k < w.heap.size → w'.heap[k]? = w.heap[k]?):Bw B b out w':=by
 obtain ⟨hb,p,v,hp,hh,hown⟩:=h
 refine ⟨hb,p,v,hp,(hm b (lt_of hh)).trans hh,hown.1,?_⟩
 rcases hown.2 with hn | ⟨g,cap,cur,fz,hv,hbg,hg,rest⟩
 ·
  exact .inl hn
 ·
  exact .inr ⟨g,cap,cur,fz,hv,hbg,(hm g (lt_of hg)).trans hg,rest⟩
theorem Bw.toBld {B b:Nat} {out:List UInt8} {w:World} (h:Bw B b out w):Bld b b out w:=by
 obtain ⟨hb,p,v,hp,hh,hown⟩:=h
 have key:Lib.BuilderAtF 161 5 b b p (Lib.byteCells out) w:=by
  refine ⟨Nat.le_refl _,v,hh,?_,?_⟩
  ·
   rw [byteCells_len]
   refine ⟨hown.1,?_⟩
   rcases hown.2 with hn | ⟨g,cap,cur,fz,hv,hbg,rest⟩
   ·
    exact .inl hn
   ·
    exact .inr ⟨g,cap,cur,fz,hv,by omega,rest⟩
  ·
   intro e
   have:=(hown.lt b e).1
   omega
 rcases hp with rfl | rfl
 ·
  exact .inl key
 ·
  exact .inr key
theorem Keeps.cell {B b:Nat} {w w':World} (h:Keeps B b w w') {g i:Nat} (hg:g < B) (hne:g ≠ b):w'.cell? ⟨g,i,none⟩ = w.cell? ⟨g,i,none⟩:=
 World.cell?_of_block (a:=⟨g,i,none⟩) (h.block g hg hne)
theorem check_calls (B b:Nat) (out:List UInt8) (w:World) (h:Bw B b out w) :
  Calls Tryz.prog 145 #[.pointer (some ⟨b,0,none⟩)] w fun e w'=>e = .returned (.tuple #[])∧Bw B b out w'∧Keeps B b w w'∧w'.heap.size = w.heap.size:=by
 obtain ⟨hb,p,v,hp,hh,hown⟩:=h
 have c0:w.cell? ⟨b,0,none⟩ = some p:=by rw [Lib.cell_of_heap hh];rfl
 rcases hp with rfl | rfl
 ·
  refine (Any.Builder_copyCheck_fresh SB.lays240 Tryz.Builder_Extra_159.toX72 b w c0 ?_ (Lib.frozen_of_heap hh 0)).mono ?_
  ·
   unfold World.shape?
   rw [hh]
   try rfl
  ·
   rintro e w' ⟨h1,rfl⟩
   refine ⟨h1,⟨hb,_,v,.inr rfl,heap_set hh _,hown.1,?_⟩,Keeps.set B w b 0 _,World.size_setCell _ _ _⟩
   rcases hown.2 with hn | ⟨g,cap,cur,fz,hv,hbg,hg,rest⟩
   ·
    exact .inl hn
   ·
    have hne:g ≠ b:=by omega
    refine .inr ⟨g,cap,cur,fz,hv,hbg,?_,rest⟩
    rw [← hg]
    simp [World.setCell,Array.getElem?_modify]
    intro e
    exact absurd e.symm hne
 ·
  refine (Any.Builder_copyCheck_used SB.lays240 Tryz.Builder_Extra_159.toX72 b w c0).mono ?_
  rintro e w' ⟨h1,rfl⟩
  exact ⟨h1,⟨hb,_,v,.inr rfl,hh,hown⟩,Keeps.refl _ _ _,rfl⟩
theorem after_app {B b:Nat} {w w2:World} {p v:Value} (hb:b < B) (hh:w.heap[b]? = some (.cells #[p,v] 161 (0,0))) (hg:w.grownBy w2 v.ownBlock) (hv:∀ k,v.ownBlock = some k → B ≤ k) (hB:B ≤ w.heap.size) :
  w2.heap[b]? = some (.cells #[p,v] 161 (0,0))∧Keeps B b w w2:=
 ⟨(hg.block b (lt_of hh) (fun e=>by have:=hv b e.symm;omega)).trans hh,hg.os,hg.tape,hg.output,hg.size,fun k hk _=>hg.block k (by omega) (fun e=>by have:=hv k e.symm;omega)⟩
theorem put {B b:Nat} {out:List UInt8} {w:World} {p v v':Value} (hb:b < B) (hp:p = .pointer none ∨ p = .pointer (some ⟨b,0,none⟩)) (hh:w.heap[b]? = some (.cells #[p,v] 161 (0,0))) (hown:w.ownsRowF B 5 1 v' out.length (Lib.byteCells out)) :
  Bw B b out (w.setCell ⟨b,1,none⟩ v'):=by
 refine ⟨hb,p,v',hp,heap_set hh v',hown.1,?_⟩
 rcases hown.2 with hn | ⟨g,cap,cur,fz,hv,hbg,hg,rest⟩
 ·
  exact .inl hn
 ·
  have hne:g ≠ b:=by omega
  refine .inr ⟨g,cap,cur,fz,hv,hbg,?_,rest⟩
  rw [← hg]
  simp [World.setCell,Array.getElem?_modify]
  intro e
  exact absurd e.symm hne
set_option maxHeartbeats 1600000 in
set_option maxRecDepth 100000 in
theorem writeString_calls (B b:Nat) (out l:List UInt8) (w:World) (h:Bw B b out w) (hl:out.length + l.length ≤ 140737488355328) (hB:B ≤ w.heap.size) :
  Calls Tryz.prog 106 #[.pointer (some ⟨b,0,none⟩),.string (mkS l)] w fun e w'=>(∃ v,e = .returned v)∧Bw B b (out ++ l) w'∧Keeps B b w w':=by
 obtain ⟨i0,hi,hz0,hz1,hz2⟩:=info_parts Tryz.Builder_Extra_159.infoByte
 have HC:=Lib.hid (check_calls B b out w h)
 have zl:=mkS_size l
 clear h
 go_enter Tryz.func106,Tryz.ntmps106
 go_wp2_with fail
 refine HC.out.mono ?_
 rintro e w1 ⟨rfl,⟨hb,p,v,hp,hh,hown⟩,hk,hz⟩
 have HK:=Lib.hid hk
 have c0:w1.cell? ⟨b,0,none⟩ = some p:=by rw [Lib.cell_of_heap hh];rfl
 have c1:w1.cell? ⟨b,1,none⟩ = some v:=by rw [Lib.cell_of_heap hh];rfl
 go_wp2_with (at_builtin;refine Lib.wpList_append_own_stringF _ rfl _ _ 55 9 rfl B 5 i0 Tryz.underlying55 Tryz.underlying9 hi hz0 hz1 hz2 _ _ _ rfl hown (mkS l) rfl ?c3 ?c4 ?c5 ?_)
 case c3=>unfold maxLen;omega
 case c4=>omega
 case c5=>omega
 intro v' w2 hown' hgrow _
 obtain ⟨hb2,hk2⟩:=after_app hb hh hgrow (fun k hk=>(hown.lt k hk).1) (by omega)
 have d0:w2.cell? ⟨b,0,none⟩ = some p:=by rw [Lib.cell_of_heap hb2];rfl
 have d1:w2.cell? ⟨b,1,none⟩ = some v:=by rw [Lib.cell_of_heap hb2];rfl
 have f1:w2.frozen? ⟨b,1,none⟩ = false:=Lib.frozen_of_heap hb2 1
 have HO:=Lib.hid hown'
 have HP:=Lib.hid hp
 have HB2:=Lib.hid hb2
 have HK2:=Lib.hid (HK.out.trans hk2)
 obtain ⟨ao,n',cap,rfl⟩:∃ ao n' cap,v' = .slice ao n' cap:=by
  rcases hown'.2 with ⟨hv,_⟩ | ⟨g,cap,cur,fz,hv,_⟩
  ·
   exact ⟨_,_,_,hv⟩
  ·
   exact ⟨_,_,_,hv⟩
 clear hown hown' hgrow hp hh hb2 hk hk2 c0 c1
 go_wp2
 go_ret2
 exact ⟨⟨_,rfl⟩,put hb HP.out HB2.out (by have:=HO.out;rw [Bld.strCells_eq,Bld.byteCells_append] at this;rw [List.length_append];exact this),HK2.out.trans (Keeps.set _ _ _ _ _)⟩
set_option maxHeartbeats 1600000 in
set_option maxRecDepth 100000 in
theorem writeByte_calls (B b:Nat) (out:List UInt8) (c:UInt8) (w:World) (h:Bw B b out w) (hl:out.length + 1 ≤ 140737488355328) (hB:B ≤ w.heap.size) :
  Calls Tryz.prog 141 #[.pointer (some ⟨b,0,none⟩),.int .u8 (c.toNat:Int)] w fun e w'=>(∃ v,e = .returned v)∧Bw B b (out ++ [c]) w'∧Keeps B b w w':=by
 obtain ⟨i0,hi,hz0,hz1,hz2⟩:=info_parts Tryz.Builder_Extra_159.infoByte
 have HC:=Lib.hid (check_calls B b out w h)
 clear h
 go_enter Tryz.func141,Tryz.ntmps141
 go_wp2_with fail
 refine HC.out.mono ?_
 rintro e w1 ⟨rfl,⟨hb,p,v,hp,hh,hown⟩,hk,hz⟩
 have HK:=Lib.hid hk
 have c0:w1.cell? ⟨b,0,none⟩ = some p:=by rw [Lib.cell_of_heap hh];rfl
 have c1:w1.cell? ⟨b,1,none⟩ = some v:=by rw [Lib.cell_of_heap hh];rfl
 go_wp2_with (at_builtin;refine wpList_append_ownF _ rfl _ _ 55 rfl B 5 i0 (.int .u8 0) 1 1 Tryz.underlying55 hi hz0 hz1 hz2 rfl (by decide) _ _ _ rfl (hown.alloc _) ⟨w1.heap.size,0,none⟩ 1 1 [.int .u8 (c.toNat:Int)] (by simp [Act.eval,hz]) rfl ?c1 ?c2 ?c3 ?c4 ?c5 ?_)
 case c1 =>
  intro j u hj
  match j,hj with
  | 0,hj=>simp at hj;subst hj;simp [Addr.add]
 case c2=>intro u hu;simp at hu;subst hu;rfl
 case c3=>unfold maxLen;omega
 case c4=>omega
 case c5=>simp;omega
 intro v' w2 hown' hgrow _
 have hlt:b < w1.heap.size:=lt_of hh
 obtain ⟨hb2,hk2⟩:=after_app (w:=w1.alloc _) hb ((Lib.alloc_old w1 _ b hlt).trans hh) hgrow (fun k hk=>(hown.lt k hk).1) (by simp;omega)
 have d0:w2.cell? ⟨b,0,none⟩ = some p:=by rw [Lib.cell_of_heap hb2];rfl
 have d1:w2.cell? ⟨b,1,none⟩ = some v:=by rw [Lib.cell_of_heap hb2];rfl
 have f1:w2.frozen? ⟨b,1,none⟩ = false:=Lib.frozen_of_heap hb2 1
 have HO:=Lib.hid hown'
 have HP:=Lib.hid hp
 have HB2:=Lib.hid hb2
 have HK2:=Lib.hid ((HK.out.trans (Keeps.alloc (b:=b) w1 _ (by omega))).trans hk2)
 obtain ⟨ao,n',cap,rfl⟩:∃ ao n' cap,v' = .slice ao n' cap:=by
  rcases hown'.2 with ⟨hv,_⟩ | ⟨g,cap,cur,fz,hv,_⟩
  ·
   exact ⟨_,_,_,hv⟩
  ·
   exact ⟨_,_,_,hv⟩
 clear hown hown' hgrow hp hh hb2 hk hk2 c0 c1
 go_wp2
 go_ret
 exact ⟨⟨_,rfl⟩,put hb HP.out HB2.out (by have:=HO.out;rw [show [Value.int .u8 (c.toNat:Int)] = Lib.byteCells [c] from rfl,Bld.byteCells_append] at this;simpa using this),HK2.out.trans (Keeps.set _ _ _ _ _)⟩
end Go.Proofs.YtnplommdgfgboaaGreatDoor.Bw
namespace Go.Proofs.YtnplommdgfgboaaGreatDoor.QT
open Go.RowKit B
structure Bel (W:World) where
 w:World
 bel:Below W.heap.size W w
def Bel.start (W:World):Bel W:=⟨W,Below.refl _ _⟩
instance (W:World):Inhabited (Bel W):=⟨Bel.start W⟩
theorem Bel.call {P:Program} {f:FuncId} {args:Array Value} {W:World} (p:Bel W) {v:Value} (h:Calls P f args p.w fun e w'=>e = .returned v∧Below p.w.heap.size p.w w') :
  Calls P f args p.w fun e w''=>e = .returned v∧∃ q:Bel W,w'' = q.w:=
 h.mono fun _ w' ⟨he,hb⟩=>⟨he,⟨w',bel_step p.bel hb⟩,rfl⟩
theorem Bel.cell {W:World} (p:Bel W) {b o:Nat} {v:Value} (h:W.cell? ⟨b,o,none⟩ = some v):p.w.cell? ⟨b,o,none⟩ = some v:=
 (p.bel.cell (p:=⟨b,o,none⟩) (cell_lt h)).trans h
section
variable {P : Program} {ops : Array Oper} {md : Region.Mode} {C : World → Prop}
def headQ (P:Program) (md:Region.Mode) (ops:Array Oper) (C:World → Prop) (n:Nat) (L:Array Bool → Act → Prop):Nat → Array Bool → Act → Prop
 | 0,listed,a=>L listed a
 | f + 1,listed,a=>Region.ready md ops listed ≠ []∧∀ i ∈ Region.ready md ops listed,i < n∧qOp P ops C i (headQ P md ops C n L f (listed.setIfInBounds i true)) a
theorem any_of_headQ {n g:Nat} {L:Array Bool → Act → Prop} {Q':Exit → Act → World → Prop} (hL:∀ listed a w,C w → L listed a → wpAny P md ops Q' g listed a w) :
  ∀ (f:Nat) (listed:Array Bool) (a:Act) (w:World),C w → headQ P md ops C n L f listed a → wpAny P md ops Q' (f + g) listed a w
 | 0,listed,a,w,hC,h=>by
  rw [Nat.zero_add]
  exact hL _ _ _ hC h
 | f + 1,listed,a,w,hC,h=>by
  rw [Nat.add_right_comm]
  exact ⟨fun h0=>absurd h0 h.1,fun i hi=>wpOp_of_qOp hC (fun a' w' hC' h'=>any_of_headQ hL f _ a' w' hC' h') (h.2 i hi).2⟩
theorem headQ_first {n i:Nat} {oi:Oper} {v:Value} {L:Array Bool → Act → Prop} (hi:ops[i]? = some oi) (hsel:∀ (j:Nat) (o:Oper) cs b,ops[j]? = some o → o.op ≠ .select cs b)
  (hs:Region.sinkB md ops n = true) (hc:Region.chainB md ops n = true) (hn:n < ops.size) (hin:i < n) (hdone:∀ listed a,L listed a → ∀ j ∈ Region.ready md ops listed,n ≤ j) :
  ∀ (f:Nat) (listed:Array Bool) (a:Act),HeadInv md ops n listed →
   (∀ j oj,ops[j]? = some oj → j ≠ i → listed.getD j true = false → (∀ e ∈ oj.after,Region.binds md e = true → e.on ≠ i) → oi.apart ops oj = true) →
   i ∈ Region.ready md ops listed → YieldsIn P ops C oi v a → headQ P md ops C n L f (listed.setIfInBounds i true) (a.put oi.dst v) → headQ P md ops C n L (f + 1) listed a:=by
 intro f
 induction f with
 | zero =>
  intro listed a inv _ hr hy H
  refine ⟨fun h=>(by rw [h] at hr;cases hr),fun j hj=>?_⟩
  have hjn:j < n:=Nat.lt_of_not_le fun h=>tail_waits hs hc hn inv _ i rfl hin (mem_ready.1 hr).1 j h hj
  refine ⟨hjn,?_⟩
  by_cases hji:j = i
  ·
   rw [hji];exact hy.qOp hi H
  ·
   exact absurd (hdone _ _ H j (ready_mono hj hji)) (by omega)
 | succ f ih =>
  intro listed a inv hfree hr hy H
  have hun:=(mem_ready.1 hr).1
  refine ⟨fun h=>(by rw [h] at hr;cases hr),fun j hj=>?_⟩
  have hjn:j < n:=Nat.lt_of_not_le fun h=>tail_waits hs hc hn inv _ i rfl hin hun j h hj
  refine ⟨hjn,?_⟩
  by_cases hji:j = i
  ·
   rw [hji];exact hy.qOp hi H
  ·
   obtain ⟨hjun,oj,hoj,hall⟩:=mem_ready.1 hj
   have hnot:∀ e ∈ oj.after,Region.binds md e = true → e.on ≠ i:=fun e he hb heq=>by
    have h1:=hall e he hb
    rw [heq,getD_both hun] at h1
    cases h1
   have h2:=qOp_put hoj (hfree j oj hoj hji hjun hnot) (fun cs b=>hsel i oi cs b hi) (fun cs b=>hsel j oj cs b hoj) hy (H.2 j (ready_mono hj hji)).2
   refine qOp_mono (fun a' h3=>ih (listed.setIfInBounds j true) a' (inv.set hj hjn) (fun k ok hk hki hun' hno=>?_) (ready_mono hr (Ne.symm hji)) h3.1 ?_) h2
   ·
    refine hfree k ok hk hki ?_ hno
    by_cases hjk:j = k
    ·
     rw [← hjk];exact hjun
    ·
     rwa [getD_set_ne true hjk] at hun'
   ·
    rw [Array.setIfInBounds_comm _ _ hji]
    exact h3.2
theorem headQ_lex {n g:Nat} {Lq:Act → Prop} (hsel:Region.noSelect ops = true) (hs:Region.sinkB md ops n = true) (hc:Region.chainB md ops n = true) (hn:n < ops.size) :
  ∀ (l:List Oper) (k:Nat) (listed:Array Bool) (a:Act),(∀ j,j < l.length → l[j]? = ops[k + j]?) → k + l.length = n → HeadInv md ops n listed → Region.lexHead md ops g l.length k listed = true →
   wpQuiet P ops C Lq l a → headQ P md ops C n (fun listed' a'=>Region.seqB md ops g n listed' = true∧Lq a') l.length listed a
 | [],k,listed,a,_,hk,_,hB,h=>by
  obtain rfl:k = n:=by simpa using hk
  exact ⟨by simpa [Region.lexHead] using hB,h⟩
 | o :: l,k,listed,a,hl,hk,inv,hB,h=>by
  have h0:ops[k]? = some o:=by simpa using (hl 0 (by simp)).symm
  simp only [List.length_cons] at hk
  simp only [List.length_cons,Region.lexHead,Bool.and_eq_true] at hB
  have hr:k ∈ Region.ready md ops listed:=by simpa using hB.1.1
  have hq:qOp P ops C k (wpQuiet P ops C Lq l) a:=by
   unfold qOp
   simp only [h0]
   exact h
  obtain ⟨v,hy,hK⟩:=yieldsIn_of_qOp h0 hq
  refine headQ_first h0 (Region.noSelect_spec hsel) hs hc hn (by omega) (fun _ _ hL=>seqB_ready hL.1) l.length listed a inv (Region.free_spec h0 hB.1.2) hr hy ?_
  exact headQ_lex hsel hs hc hn l (k + 1) _ _ (fun j hj=>by
   have:=hl (j + 1) (by simp;omega)
   simpa [Nat.add_assoc,Nat.add_comm 1 j] using this) (by omega) (inv.set hr (by omega)) hB.2 hK
theorem region_tail {id:Nat} {Q:Exit → Act → World → Prop} {a:Act} {w:World} {l:List Oper} (n:Nat) (hm:P.follows .mixedOrders = true) (hB:Region.lexTailB .any l.toArray n = true) (hC:C { w with drawn:=w.drawn + 1 })
  (h:wpQuiet P l.toArray C (fun a'=>∀ w',C w' → wpList P l.toArray Q (l.drop n) a' w') (l.take n) a):(Code.region id l.toArray true).wp P Q a w:=by
 simp only [Region.lexTailB,Bool.and_eq_true,decide_eq_true_eq] at hB
 obtain ⟨⟨⟨⟨hsel,hn⟩,hs⟩,hc⟩,hlex⟩:=hB
 have hn':n < l.length:=by simpa using hn
 have htl:(l.take n).length = n:=by simp;omega
 have hdl:(l.drop n).length = l.toArray.size - n:=by simp
 have inv0:HeadInv .any l.toArray n (Array.replicate l.toArray.size false):=
  ⟨by simp,fun j oj _ hl=>(by rw [getD_replicate_false] at hl;cases hl),fun t _ ht=>getD_in (by simpa using ht) (getD_replicate_false _ _)⟩
 have H:=headQ_lex (P:=P) (C:=C) (md:=.any) (g:=l.toArray.size - n) hsel hs hc hn (l.take n) 0 _ a (fun j hj=>by
  rw [htl] at hj
  simp [hj]) (by simpa using htl) inv0 (by rw [htl];exact hlex) h
 rw [htl] at H
 refine wp_region_any hm ?_
 have:=any_of_headQ (Q':=Q) (g:=l.toArray.size - n) (fun listed a' w' hC' hL=>by
  have:=wpAny_of_seq (md:=.any) (Q':=Q) (l.drop n) n listed a' w' (fun j=>by simp [List.getElem?_drop]) (by rw [hdl];exact hL.1) (hL.2 w' hC')
  rwa [hdl] at this) n _ _ _ hC H
 rwa [show n + (l.toArray.size - n) = l.toArray.size by omega] at this
theorem region_bel {id:Nat} {Q:Exit → Act → World → Prop} {a:Act} {w:World} {l:List Oper} (n:Nat) (hm:P.follows .mixedOrders = true) (hB:Region.lexTailB .any l.toArray n = true)
  (h:wpQuiet P l.toArray (fun w'=>∃ p:Bel w,w' = p.w) (fun a'=>∀ w',(∃ p:Bel w,w' = p.w) → wpList P l.toArray Q (l.drop n) a' w') (l.take n) a):(Code.region id l.toArray true).wp P Q a w:=
 region_tail (C:=fun w'=>∃ p:Bel w,w' = p.w) n hm hB ⟨⟨_,(Below.refl _ w).drew⟩,rfl⟩ h
theorem region_all {id:Nat} {Q:Exit → Act → World → Prop} {a:Act} {w:World} {l:List Oper} (hm:P.follows .mixedOrders = true) (hB:Region.lexB .any l.toArray = true)
  (h:wpQuiet P l.toArray (fun w'=>∃ p:Bel w,w' = p.w) (fun a'=>∀ w',(∃ p:Bel w,w' = p.w) → Q .normal a' w') l a):(Code.region id l.toArray true).wp P Q a w:=
 wp_region_quiet (C:=fun w'=>∃ p:Bel w,w' = p.w) hm hB ⟨⟨_,(Below.refl _ w).drew⟩,rfl⟩ (by simpa using h)
end
end Go.Proofs.YtnplommdgfgboaaGreatDoor.QT
namespace Go.Proofs.YtnplommdgfgboaaGreatDoor.Show
open Go.RowKit Go.Lib B Rd Utf TermPure Tx Env Bld
theorem esc_sign {b:UInt8} {n:Nat} (hn:n = b.toNat) (h:n = 34 ∨ n = 92):escB b = [92,UInt8.ofNat n]:=by
 rcases h with rfl | rfl
 ·
  obtain rfl:b = 34:=by apply UInt8.toNat_inj.1;rw [← hn];rfl
  rfl
 ·
  obtain rfl:b = 92:=by apply UInt8.toNat_inj.1;rw [← hn];rfl
  rfl
theorem esc_short {b:UInt8} {n:Nat} (hn:n = b.toNat) (h:n = 8 ∨ n = 9 ∨ n = 10 ∨ n = 12 ∨ n = 13):escB b = [92,short n]:=by
 rcases h with rfl | rfl | rfl | rfl | rfl
 ·
  obtain rfl:b = 8:=by apply UInt8.toNat_inj.1;rw [← hn];rfl
  rfl
 ·
  obtain rfl:b = 9:=by apply UInt8.toNat_inj.1;rw [← hn];rfl
  rfl
 ·
  obtain rfl:b = 10:=by apply UInt8.toNat_inj.1;rw [← hn];rfl
  rfl
 ·
  obtain rfl:b = 12:=by apply UInt8.toNat_inj.1;rw [← hn];rfl
  rfl
 ·
  obtain rfl:b = 13:=by apply UInt8.toNat_inj.1;rw [← hn];rfl
  rfl
theorem esc_ne {b:UInt8} {n:Nat} (hn:n = b.toNat) (k:UInt8) (h:n ≠ k.toNat):b ≠ k:=by
 rintro rfl
 exact h hn
theorem esc_hex {b:UInt8} {n:Nat} (hn:n = b.toNat) (h:n < 32 ∨ n = 127) (h8:n ≠ 8) (h9:n ≠ 9) (h10:n ≠ 10) (h12:n ≠ 12) (h13:n ≠ 13):escB b = [92,117,48,48,hexD (n / 16),hexD (n % 16)]:=by
 unfold escB
 rw [if_neg (esc_ne hn 34 (show n ≠ 34 by omega)),if_neg (esc_ne hn 92 (show n ≠ 92 by omega)),if_neg (esc_ne hn 10 h10),if_neg (esc_ne hn 13 h13),if_neg (esc_ne hn 9 h9),if_neg (esc_ne hn 8 h8),if_neg (esc_ne hn 12 h12),if_pos (by omega),hn]
theorem esc_none {b:UInt8} {n:Nat} (hn:n = b.toNat) (h1:¬ n < 32) (h2:n ≠ 127) (h3:n ≠ 34) (h4:n ≠ 92):escB b = [b]:=by
 unfold escB
 rw [if_neg (esc_ne hn 34 h3),if_neg (esc_ne hn 92 h4),if_neg (esc_ne hn 10 (show n ≠ 10 by omega)),if_neg (esc_ne hn 13 (show n ≠ 13 by omega)),if_neg (esc_ne hn 9 (show n ≠ 9 by omega)),if_neg (esc_ne hn 8 (show n ≠ 8 by omega)),if_neg (esc_ne hn 12 (show n ≠ 12 by omega)),if_neg (by omega)]
theorem esc_len6 (b:UInt8):(escB b).length ≤ 6:=by
 unfold escB
 repeat' split
 all_goals simp
theorem flat_len:∀ l:List UInt8,(l.flatMap escB).length ≤ 6 * l.length
 | []=>by simp
 | b :: l=>by
  have h1:=flat_len l
  have h2:=esc_len6 b
  rw [List.flatMap_cons,List.length_append,List.length_cons]
  omega
theorem flat_take (s:List UInt8) (k:Nat) (h:k < s.length):(s.take (k + 1)).flatMap escB = (s.take k).flatMap escB ++ escB s[k]:=by
 rw [List.take_succ_eq_append_getElem h,List.flatMap_append]
 simp
set_option maxHeartbeats 4000000 in
set_option maxRecDepth 100000 in
theorem quoted_calls (s:List UInt8) (hs:s.length ≤ 17592186044416) (w:World) :
  Calls Tryz.prog 98 #[.string (mkS s)] w fun e w'=>e = .returned (.string (mkS (TermPure.quoted s)))∧Below w.heap.size w w':=by
 obtain ⟨cap,o,hc1,hc2,hcv,ho⟩:=bytes_conv s (by omega) (w.alloc (.cells #[.pointer none,.slice none 0 0] 161))
 have ho':=ho (w.alloc (.cells #[.pointer none,.slice none 0 0] 161)).drew rfl
 rw [show (w.alloc (.cells #[.pointer none,.slice none 0 0] 161)).heap.size = w.heap.size + 1 by simp] at ho'
 have HC0:=Lib.hid (fun k h=>(ho' k h).1)
 have HB0:Hid (Bw.Bw (w.heap.size + 2) w.heap.size [] ((w.alloc (.cells #[.pointer none,.slice none 0 0] 161)).drew.alloc o)):=
  Lib.hid (Bw.Bw.new (by omega) ((Lib.alloc_old _ _ _ (by simp)).trans (Kd.heap_new _ _)))
 have HW0:Hid (Below w.heap.size w ((w.alloc (.cells #[.pointer none,.slice none 0 0] 161)).drew.alloc o)):=Lib.hid (bel_alloc (bel_drew (bel_alloc (Below.refl _ _) _)) _)
 clear ho ho'
 go_enter Tryz.func98,Tryz.ntmps98
 go_wp2
 go_loopw [9] (fun vi wr=>∃ k:Nat,k ≤ s.length∧vi = .int .i64 k∧Hid (Bw.Bw (w.heap.size + 2) w.heap.size ((s.take k).flatMap escB) wr)∧Hid (Below w.heap.size w wr)∧w.heap.size + 2 ≤ wr.heap.size∧Hid (∀ i (h:i < s.length),wr.cell? ⟨w.heap.size + 1,i,none⟩ = some (.int .u8 (s[i].toNat:Int)))) (fun vi _=>s.length - (intOf vi).toNat)
 case atStart=>exact ⟨0,by omega,rfl,HB0,HW0,by simp,HC0⟩
 case round =>
  obtain ⟨k,hk,rfl,HB,HW,HZ,HC⟩:=hrel
  have hz0:w.heap.size ≤ wr.heap.size:=by omega
  by_cases hlt:k < s.length
  ·
   have hd:decide (k < s.length) = true:=decide_eq_true hlt
   have hlen:((s.take k).flatMap escB).length ≤ 6 * s.length:=Nat.le_trans (flat_len _) (by rw [List.length_take];omega)
   have c0:=HC.out k hlt
   have HT:=Lib.hid (flat_take s k hlt)
   have ik:(k:Int) < (s.length:Int):=by omega
   obtain ⟨b,hb⟩:∃ b,b = s[k]:=⟨_,rfl⟩
   rw [← hb] at c0 HT
   obtain ⟨n,hn⟩:∃ n,n = b.toNat:=⟨_,rfl⟩
   rw [← hn] at c0
   have hn256:n < 256:=by rw [hn];exact b.toNat_lt
   have HN:=Lib.hid hn
   clear hb hn
   by_cases h1:n = 34 ∨ n = 92
   ·
    have HE:=Lib.hid (esc_sign HN.out h1)
    have HA:=Lib.hid (fun w=>escaped_sign n h1 w)
    have d1:decide ((n:Int) < 32) = false:=decide_eq_false (by omega)
    have d2:((n:Int) == 127) = false:=by rw [beq_eq_false_iff_ne];omega
    have hs3:((n:Int) == 34) = true ∨ (((n:Int) == 34) = false∧((n:Int) == 92) = true):=by
     rcases h1 with rfl | rfl
     ·
      exact .inl rfl
     ·
      exact .inr ⟨rfl,rfl⟩
    clear h1
    rcases hs3 with d3 | ⟨d3,d4⟩
    all_goals
     go_wp2_with fail
     refine (HA.out wr).mono ?_
     rintro e w1 ⟨rfl,hb1⟩
     have HB1:=Lib.hid (HB.out.kept hb1.block)
     have HW1:=Lib.hid (bel_step HW.out hb1)
     have HC1:=Lib.hid (fun i (h:i < s.length)=>(hb1.cell (p:=⟨w.heap.size + 1,i,none⟩) (by dsimp only;omega)).trans (HC.out i h))
     have hz1:w.heap.size + 2 ≤ w1.heap.size:=Nat.le_trans HZ hb1.size
     clear hb1 HB HW HC
     go_wp2_with fail
     refine (Bw.writeString_calls _ _ _ _ w1 HB1.out (by simp only [List.length_cons,List.length_nil];omega) hz1).mono ?_
     rintro e w2 ⟨⟨v,rfl⟩,hB2,hK2⟩
     have HB2:=Lib.hid hB2
     have HW2:=Lib.hid (hK2.below HW1.out (Nat.le_refl _) (by omega))
     have HC2:=Lib.hid (fun i (h:i < s.length)=>(Bw.Keeps.cell hK2 (by omega) (by omega)).trans (HC1.out i h))
     have hz2:w.heap.size + 2 ≤ w2.heap.size:=Nat.le_trans hz1 hK2.size
     clear hB2 hK2 HB1 HW1 HC1
     go_wp2
     go_roundw
     case rel=>exact ⟨k + 1,by omega,by go_num,Lib.hid (by rw [HT.out,HE.out];exact HB2.out),HW2,hz2,HC2⟩
     case measure=>simp [intOf];omega
   by_cases h2:n = 8 ∨ n = 9 ∨ n = 10 ∨ n = 12 ∨ n = 13
   ·
    have HE:=Lib.hid (esc_short HN.out h2)
    have HA:=Lib.hid (fun w=>escaped_short n h2 w)
    have d1:decide ((n:Int) < 32) = true:=decide_eq_true (by omega)
    go_wp2_with fail
    refine (HA.out wr).mono ?_
    rintro e w1 ⟨rfl,hb1⟩
    have HB1:=Lib.hid (HB.out.kept hb1.block)
    have HW1:=Lib.hid (bel_step HW.out hb1)
    have HC1:=Lib.hid (fun i (h:i < s.length)=>(hb1.cell (p:=⟨w.heap.size + 1,i,none⟩) (by dsimp only;omega)).trans (HC.out i h))
    have hz1:w.heap.size + 2 ≤ w1.heap.size:=Nat.le_trans HZ hb1.size
    clear hb1 HB HW HC
    go_wp2_with fail
    refine (Bw.writeString_calls _ _ _ _ w1 HB1.out (by simp only [List.length_cons,List.length_nil];omega) hz1).mono ?_
    rintro e w2 ⟨⟨v,rfl⟩,hB2,hK2⟩
    have HB2:=Lib.hid hB2
    have HW2:=Lib.hid (hK2.below HW1.out (Nat.le_refl _) (by omega))
    have HC2:=Lib.hid (fun i (h:i < s.length)=>(Bw.Keeps.cell hK2 (by omega) (by omega)).trans (HC1.out i h))
    have hz2:w.heap.size + 2 ≤ w2.heap.size:=Nat.le_trans hz1 hK2.size
    clear hB2 hK2 HB1 HW1 HC1
    go_wp2
    go_roundw
    case rel=>exact ⟨k + 1,by omega,by go_num,Lib.hid (by rw [HT.out,HE.out];exact HB2.out),HW2,hz2,HC2⟩
    case measure=>simp [intOf];omega
   by_cases h3:n < 32
   ·
    have HE:=Lib.hid (esc_hex HN.out (.inl h3) (by omega) (by omega) (by omega) (by omega) (by omega))
    have HA:=Lib.hid (fun w=>escaped_hex n (.inl h3) (by omega) (by omega) (by omega) (by omega) (by omega) w)
    have d1:decide ((n:Int) < 32) = true:=decide_eq_true (by omega)
    go_wp2_with fail
    refine (HA.out wr).mono ?_
    rintro e w1 ⟨rfl,hb1⟩
    have HB1:=Lib.hid (HB.out.kept hb1.block)
    have HW1:=Lib.hid (bel_step HW.out hb1)
    have HC1:=Lib.hid (fun i (h:i < s.length)=>(hb1.cell (p:=⟨w.heap.size + 1,i,none⟩) (by dsimp only;omega)).trans (HC.out i h))
    have hz1:w.heap.size + 2 ≤ w1.heap.size:=Nat.le_trans HZ hb1.size
    clear hb1 HB HW HC
    go_wp2_with fail
    refine (Bw.writeString_calls _ _ _ _ w1 HB1.out (by simp only [List.length_cons,List.length_nil];omega) hz1).mono ?_
    rintro e w2 ⟨⟨v,rfl⟩,hB2,hK2⟩
    have HB2:=Lib.hid hB2
    have HW2:=Lib.hid (hK2.below HW1.out (Nat.le_refl _) (by omega))
    have HC2:=Lib.hid (fun i (h:i < s.length)=>(Bw.Keeps.cell hK2 (by omega) (by omega)).trans (HC1.out i h))
    have hz2:w.heap.size + 2 ≤ w2.heap.size:=Nat.le_trans hz1 hK2.size
    clear hB2 hK2 HB1 HW1 HC1
    go_wp2
    go_roundw
    case rel=>exact ⟨k + 1,by omega,by go_num,Lib.hid (by rw [HT.out,HE.out];exact HB2.out),HW2,hz2,HC2⟩
    case measure=>simp [intOf];omega
   by_cases h4:n = 127
   ·
    have HE:=Lib.hid (esc_hex HN.out (.inr h4) (by omega) (by omega) (by omega) (by omega) (by omega))
    have HA:=Lib.hid (fun w=>escaped_hex n (.inr h4) (by omega) (by omega) (by omega) (by omega) (by omega) w)
    subst h4
    go_wp2_with fail
    refine (HA.out wr).mono ?_
    rintro e w1 ⟨rfl,hb1⟩
    have HB1:=Lib.hid (HB.out.kept hb1.block)
    have HW1:=Lib.hid (bel_step HW.out hb1)
    have HC1:=Lib.hid (fun i (h:i < s.length)=>(hb1.cell (p:=⟨w.heap.size + 1,i,none⟩) (by dsimp only;omega)).trans (HC.out i h))
    have hz1:w.heap.size + 2 ≤ w1.heap.size:=Nat.le_trans HZ hb1.size
    clear hb1 HB HW HC
    go_wp2_with fail
    refine (Bw.writeString_calls _ _ _ _ w1 HB1.out (by simp only [List.length_cons,List.length_nil];omega) hz1).mono ?_
    rintro e w2 ⟨⟨v,rfl⟩,hB2,hK2⟩
    have HB2:=Lib.hid hB2
    have HW2:=Lib.hid (hK2.below HW1.out (Nat.le_refl _) (by omega))
    have HC2:=Lib.hid (fun i (h:i < s.length)=>(Bw.Keeps.cell hK2 (by omega) (by omega)).trans (HC1.out i h))
    have hz2:w.heap.size + 2 ≤ w2.heap.size:=Nat.le_trans hz1 hK2.size
    clear hB2 hK2 HB1 HW1 HC1
    go_wp2
    go_roundw
    case rel=>exact ⟨k + 1,by omega,by go_num,Lib.hid (by rw [HT.out,HE.out];exact HB2.out),HW2,hz2,HC2⟩
    case measure=>simp [intOf];omega
   ·
    have HE:=Lib.hid (esc_none HN.out h3 h4 (by omega) (by omega))
    have d1:decide ((n:Int) < 32) = false:=decide_eq_false (by omega)
    have d2:((n:Int) == 127) = false:=by rw [beq_eq_false_iff_ne];omega
    have d3:((n:Int) == 34) = false:=by rw [beq_eq_false_iff_ne];omega
    have d4:((n:Int) == 92) = false:=by rw [beq_eq_false_iff_ne];omega
    have HA:=Lib.hid (Bw.writeByte_calls _ _ _ b wr HB.out (by omega) HZ)
    rw [← HN.out] at HA
    go_wp2_with fail
    refine HA.out.mono ?_
    rintro e w2 ⟨⟨v,rfl⟩,hB2,hK2⟩
    have HB2:=Lib.hid hB2
    have HW2:=Lib.hid (hK2.below HW.out (Nat.le_refl _) (by omega))
    have HC2:=Lib.hid (fun i (h:i < s.length)=>(Bw.Keeps.cell hK2 (by omega) (by omega)).trans (HC.out i h))
    have hz2:w.heap.size + 2 ≤ w2.heap.size:=Nat.le_trans HZ hK2.size
    clear hB2 hK2 HB HW HC c0
    go_wp2
    go_roundw
    case rel=>exact ⟨k + 1,by omega,by go_num,Lib.hid (by rw [HT.out,HE.out];exact HB2.out),HW2,hz2,HC2⟩
    case measure=>simp [intOf];omega
  ·
   have hd:decide (k < s.length) = false:=decide_eq_false hlt
   obtain rfl:k = s.length:=by omega
   have HB':Hid (Bw.Bw (w.heap.size + 2) w.heap.size (s.flatMap escB) wr):=Lib.hid (by have:=HB.out;rwa [List.take_length] at this)
   clear HB
   go_wp2_with fail
   refine (string_calls _ _ _ wr HB'.out.toBld hz0).mono ?_
   rintro e w2 ⟨rfl,_,hK2⟩
   have HW2:=Lib.hid (HW.out.trans hK2)
   clear hK2 HB'
   have hfl:=flat_len s
   have HQ:Hid (TermPure.quoted s = 34 :: (s.flatMap escB ++ [34])):=Lib.hid rfl
   generalize s.flatMap escB = out at hfl HQ
   have zl:=mkS_size out
   have z1:(⟨#[34]⟩:ByteArray).size = 1:=rfl
   have z2:((⟨#[34]⟩:ByteArray) ++ mkS out).size = 1 + out.length:=by rw [ByteArray.size_append,z1,zl]
   have z3:out.length ≤ 105553116266496:=by omega
   go_wp2
   go_ret
   exact ⟨ret_str (by rw [HQ.out,mkS_lit,mkS_append,mkS_append];rfl),HW2.out⟩
theorem box_cells (w:World) (k:Int) (x ex:List UInt8) (p:QT.Bel (w.alloc (.cells #[.int .i64 k,.string (mkS x),.string (mkS ex)] 24))) :
  p.w.cell? ⟨w.heap.size,1,none⟩ = some (.string (mkS x))∧p.w.cell? ⟨w.heap.size,2,none⟩ = some (.string (mkS ex)):=by
 have ht:=Tc.TC.new w ⟨k,x,ex⟩
 exact ⟨p.cell ht.c1,p.cell ht.c2⟩
theorem quoted_len (x:List UInt8):(TermPure.quoted x).length ≤ 6 * x.length + 2:=by
 have:=flat_len x
 unfold TermPure.quoted
 rw [List.length_cons,List.length_append,List.length_singleton]
 omega
set_option maxHeartbeats 1600000 in
theorem show_calls (t:Term) (hx:t.text.length ≤ 17592186044416) (hex:t.extra.length ≤ 17592186044416) (w:World) :
  Calls Tryz.prog 56 #[Ref5.termV t] w fun e w'=>e = .returned (.string (mkS (shown t)))∧Below w.heap.size w w':=by
 obtain ⟨kind,x,ex⟩:=t
 dsimp only at hx hex
 have HQ:=Lib.hid (fun w=>quoted_calls x hx w)
 have hql:=quoted_len x
 have zx:=mkS_size x
 have ze:=mkS_size ex
 unfold Ref5.termV
 dsimp only
 have HBX:=Lib.hid (fun k=>box_cells w k x ex)
 have HBe:=Lib.hid (fun (k:Int)=>bel_alloc (Below.refl w.heap.size w) (.cells #[.int .i64 k,.string (mkS x),.string (mkS ex)] 24))
 by_cases h1:kind = 1
 ·
  subst h1
  have z1:(⟨#[60]⟩:ByteArray).size = 1:=rfl
  have z2:((⟨#[60]⟩:ByteArray) ++ mkS x).size = 1 + x.length:=by rw [ByteArray.size_append,z1,zx]
  have z3:(⟨#[62]⟩:ByteArray).size = 1:=rfl
  go_enter Tryz.func56,Tryz.ntmps56
  go_wp2
  go_ret
  exact ⟨ret_str (by rw [mkS_lit,mkS_lit,mkS_append,mkS_append];rfl),HBe.out _⟩
 have e1:(kind == 1) = false:=by rw [beq_eq_false_iff_ne];exact h1
 by_cases h2:kind = 2
 ·
  subst h2
  have z1:(⟨#[95,58]⟩:ByteArray).size = 2:=rfl
  go_enter Tryz.func56,Tryz.ntmps56
  go_wp2
  go_ret
  exact ⟨ret_str (by rw [mkS_lit,mkS_append];rfl),HBe.out _⟩
 have e2:(kind == 2) = false:=by rw [beq_eq_false_iff_ne];exact h2
 have HS0:Hid (¬ kind = 1∧¬ kind = 2):=Lib.hid ⟨h1,h2⟩
 clear h1 h2
 by_cases h4:kind = 4
 ·
  subst h4
  have HS:Hid (shown ⟨4,x,ex⟩ = TermPure.quoted x ++ 64 :: ex):=Lib.hid rfl
  generalize TermPure.quoted x = q at *
  have zq:=mkS_size q
  have z1:(⟨#[64]⟩:ByteArray).size = 1:=rfl
  have z2:(mkS q ++ (⟨#[64]⟩:ByteArray)).size = q.length + 1:=by rw [ByteArray.size_append,z1,zq]
  have b1:=fun p=>(HBX.out 4 p).1
  have b2:=fun p=>(HBX.out 4 p).2
  go_enter Tryz.func56,Tryz.ntmps56
  go_upto_region 7 with fail
  refine QT.region_all (by kernel_rfl) (by kernel_rfl) ?_
  repeat (go_big_quiet_step (exact QT.Bel.call _ (HQ.out _)))
  refine wpQuiet_nil ?_
  intro _ hw'
  obtain ⟨⟨w2,hb⟩,rfl⟩:=hw'
  have HB:=Lib.hid (bel_step (HBe.out 4) hb)
  clear hb b1 b2
  go_wp2
  go_ret
  exact ⟨ret_str (by rw [HS.out,mkS_lit,mkS_append,mkS_append];simp),HB.out⟩
 have e4:(kind == 4) = false:=by rw [beq_eq_false_iff_ne];exact h4
 by_cases h5:kind = 5
 ·
  subst h5
  have HS:Hid (shown ⟨5,x,ex⟩ = TermPure.quoted x ++ (94 :: 94 :: 60 :: (ex ++ [62]))):=Lib.hid rfl
  generalize TermPure.quoted x = q at *
  have zq:=mkS_size q
  have z1:(⟨#[94,94,60]⟩:ByteArray).size = 3:=rfl
  have z3:(⟨#[62]⟩:ByteArray).size = 1:=rfl
  have z2:(mkS q ++ (⟨#[94,94,60]⟩:ByteArray)).size = q.length + 3:=by rw [ByteArray.size_append,z1,zq]
  have z4:(mkS q ++ (⟨#[94,94,60]⟩:ByteArray) ++ mkS ex).size = q.length + 3 + ex.length:=by rw [ByteArray.size_append,z2,ze]
  have b1:=fun p=>(HBX.out 5 p).1
  have b2:=fun p=>(HBX.out 5 p).2
  go_enter Tryz.func56,Tryz.ntmps56
  go_upto_region 9 with fail
  refine QT.region_all (by kernel_rfl) (by kernel_rfl) ?_
  repeat (go_big_quiet_step (exact QT.Bel.call _ (HQ.out _)))
  refine wpQuiet_nil ?_
  intro _ hw'
  obtain ⟨⟨w2,hb⟩,rfl⟩:=hw'
  have HB:=Lib.hid (bel_step (HBe.out 5) hb)
  clear hb b1 b2
  go_wp2
  go_ret
  exact ⟨ret_str (by rw [HS.out,mkS_lit,mkS_lit,mkS_append,mkS_append,mkS_append];simp),HB.out⟩
 have e5:(kind == 5) = false:=by rw [beq_eq_false_iff_ne];exact h5
 have HS:Hid (shown ⟨kind,x,ex⟩ = TermPure.quoted x):=Lib.hid (by unfold shown;dsimp only;rw [if_neg HS0.out.1,if_neg HS0.out.2,if_neg h4,if_neg h5])
 clear h4 h5
 go_enter Tryz.func56,Tryz.ntmps56
 go_wp2_with fail
 refine (HQ.out _).mono ?_
 rintro e w2 ⟨rfl,hb⟩
 have HB:=Lib.hid (bel_step (HBe.out kind) hb)
 clear hb
 go_wp2
 go_ret
 exact ⟨ret_str (by rw [HS.out]),HB.out⟩
end Go.Proofs.YtnplommdgfgboaaGreatDoor.Show
