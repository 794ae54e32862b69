/-
  What the program's reader of lines answers: up to a sign.
-/
import Derived.Test.YtmcoloapiiakbaaGreatDoorPrg3
set_option linter.unusedVariables false
set_option linter.unusedSimpArgs false
namespace Go.Proofs.YtmcoloapiiakbaaGreatDoor.Prg
open Go.RowKit Go.Lib Go.Proofs.YtmcoloapiiakbaaGreatDoor.B Go.Proofs.YtmcoloapiiakbaaGreatDoor.Rd Go.Proofs.YtmcoloapiiakbaaGreatDoor.Utf Go.Proofs.YtmcoloapiiakbaaGreatDoor.TermPure Go.Proofs.YtmcoloapiiakbaaGreatDoor.LinesPure Go.Proofs.YtmcoloapiiakbaaGreatDoor.Tx Go.Proofs.YtmcoloapiiakbaaGreatDoor.Env Go.Proofs.YtmcoloapiiakbaaGreatDoor.Bld

theorem up_chunk (stop : UInt8) (hs : stop.toNat < 128) (lit nl : Bool) (t : List UInt8) : ∀ ch : List UInt8, (∀ b ∈ ch, 128 ≤ b.toNat) → up stop lit nl (ch ++ t) = (up stop lit nl t).map fun x => (ch ++ x.1, x.2)
  | [], _ => by simp
  | b :: ch, h => by
    have hb := h b (by simp)
    have ih := up_chunk stop hs lit nl t ch (fun x hx => h x (by simp [hx]))
    have h1 : b ≠ stop := fun e => by rw [e] at hb; omega
    have h2 : b ≠ 92 := fun e => by rw [e] at hb; exact absurd hb (by decide)
    have h3 : ¬ (nl = true ∧ (b = 10 ∨ b = 13)) := by
      rintro ⟨_, e | e⟩
      · rw [e] at hb; exact absurd hb (by decide)
      · rw [e] at hb; exact absurd hb (by decide)
    rw [List.cons_append, up_other stop lit nl b _ h1 h2 h3, ih, Option.map_map]
    congr 1
/-- What is told up to a sign. -/
def UntPost (w : World) (rb : Nat) (r : Option (List UInt8 × List UInt8)) (e : Ending) (w' : World) : Prop := match r with
  | none => ∃ (o s : List UInt8), e = .returned (.string (mkS o)) ∧ Step w w' rb s true
  | some (o, q) => e = .returned (.string (mkS o)) ∧ Step w w' rb q false ∧ validD q = true
/-- A round. -/
structure Rnd (w wr : World) (rb : Nat) (l q out : List UInt8) (stop : UInt8) (lit : Bool) : Prop where
  step : Step w wr rb q false
  bld : Bld w.heap.size w.heap.size out wr
  env : Env wr
  valid : validD q = true
  len : out.length + q.length ≤ l.length
  says : up stop lit lit l = (up stop lit lit q).map fun x => (out ++ x.1, x.2)
set_option maxRecDepth 100000 in
set_option maxHeartbeats 6400000 in
theorem until_calls (rb : Nat) (l : List UInt8) (stop : UInt8) (hst : stop.toNat < 128) (hs92 : stop ≠ 92) (lit : Bool) (hv : validD l = true) (w : World) (he : Env w) (hrb : lowB ≤ rb) (h : At w rb l false) :
    Calls Tryz.prog 81 #[.pointer (some ⟨rb, 0, none⟩), .int .i32 (stop.toNat : Int), .bool lit] w fun e w' => UntPost w rb (up stop lit lit l) e w' := by
  have hlt := h.lt
  have hlen := h.len
  have hlow := he.low
  have hR0 : Hid (Rnd w (w.alloc (.cells #[.pointer none, .slice none 0 0] 65)) rb l l [] stop lit) :=
    Lib.hid ⟨(Step.refl h).alloc _, Bld.new w, he.below (bel_alloc (Below.refl _ _) _), hv, by simp, by simp⟩
  clear h he hv
  go_enter Tryz.func81, Tryz.ntmps81
  go_wp2
  go_step3
  go_wp2
  go_step3
  go_wp2
  go_loopg [] (l.length + 1) (fun n wr => ∃ (q out : List UInt8), Hid (n = q.length + 1) ∧ Hid (Rnd w wr rb l q out stop lit))
  case atStart => exact ⟨l, [], Lib.hid rfl, hR0⟩
  case round =>
    obtain ⟨q, out, HN, HR⟩ := hrel
    have hbl := HR.out.len
    obtain ⟨c0, c1, f0, f1, hql⟩ := HR.out.step.at'
    by_cases hne : q = []
    · subst hne
      have HO : Hid (up stop lit lit l = none) := Lib.hid (HR.out.says.trans (by rw [up_nil]; rfl))
      go_wp2_with fail
      refine (take_end_calls rb [] false (.inr rfl) _ HR.out.step.at').mono ?_
      rintro e w1 ⟨rfl, hs1⟩
      have HS1 := Lib.hid (HR.out.step.trans hs1)
      have HB1 := Lib.hid (HR.out.bld.grown hs1.grown hlt)
      have HZ1 : w.heap.size ≤ w1.heap.size := HS1.out.grown.size
      have e1 : ((-1 : Int) == (stop.toNat : Int)) = false := by rw [beq_eq_false_iff_ne]; omega
      obtain ⟨c0, c1, f0, f1, _⟩ := HS1.out.at'
      clear hs1
      cases lit
      all_goals
        go_wp2_with fail
        refine (string_calls _ _ out _ HB1.out HZ1).mono ?_
        rintro e w2 ⟨rfl, _, hb2⟩
        have HS2 := Lib.hid (HS1.out.belowB hb2 hlt)
        clear hb2
        go_wp2
        go_ret
        rw [HO.out]
        exact ⟨_, _, rfl, HS2.out⟩
    · obtain ⟨r1, r2, r3, r4⟩ := rune_len q hne HR.out.valid
      have HT := Lib.hid (take_calls rb q hne HR.out.valid _ HR.out.env HR.out.step.at')
      have hst2 := Utf.step q hne HR.out.valid
      rcases hst2 with ⟨b, t, rfl, hb, hd, ht⟩ | ⟨ch, t, c, hc⟩
      · rw [hd] at HT
        simp only [List.drop_succ_cons, List.drop_zero] at HT
        have HV := Lib.hid ht
        have HD := Lib.hid hd
        have hNt : Hid (t.length + 1 < gk) := Lib.hid (by rw [HN.out]; simp)
        have hbt : out.length + t.length + 1 ≤ l.length := by simp at hbl; omega
        clear r1 r2 r3 r4 hne hd ht
        go_wp2_with fail
        refine HT.out.mono ?_
        rintro e w1 ⟨rfl, hs1⟩
        have HS1 := Lib.hid (HR.out.step.trans hs1)
        have HB1 := Lib.hid (HR.out.bld.grown hs1.grown hlt)
        have HE1 := Lib.hid (HR.out.env.step hs1 hrb)
        have HZ1 : w.heap.size ≤ w1.heap.size := HS1.out.grown.size
        have HU := Lib.hid HR.out.says
        clear c0 c1 f0 f1 hs1 HT HR
        obtain ⟨c0, c1, f0, f1, _⟩ := HS1.out.at'
        by_cases b1 : b = stop
        · subst b1
          have HO : Hid (up b lit lit l = some (out, t)) := Lib.hid (HU.out.trans (by rw [up_stop]; simp))
          clear HU
          go_wp2_with fail
          refine (string_calls _ _ out _ HB1.out HZ1).mono ?_
          rintro e w9 ⟨rfl, _, hb9⟩
          have HS9 := Lib.hid (HS1.out.belowB hb9 hlt)
          clear hb9
          go_wp2
          go_ret
          rw [HO.out]
          exact ⟨rfl, HS9.out, HV.out⟩
        · have e1 : ((b.toNat : Int) == (stop.toNat : Int)) = false := by
            rw [beq_eq_false_iff_ne]
            intro e
            exact b1 (UInt8.toNat_inj.1 (by omega))
          by_cases b2 : b = 92
          · have e2 : ((b.toNat : Int) == 92) = true := by rw [beq_iff_eq, b2]; rfl
            have HE0 := Lib.hid (up_esc_none stop lit lit b t b1 b2)
            have HEs := Lib.hid (fun o r => up_esc stop lit lit b t o r b1 b2)
            clear b1 b2
            go_wp2_with fail
            refine (escape_calls rb t lit HV.out _ HE1.out hrb HS1.out.at').mono ?_
            intro e w2 hp
            cases hr : esc lit t with
            | none =>
              rw [hr] at hp
              obtain ⟨c, s, rfl, hs2⟩ := hp
              have HO : Hid (up stop lit lit l = none) := Lib.hid (HU.out.trans (by rw [HE0.out hr]; rfl))
              have HS2 := Lib.hid (HS1.out.trans hs2)
              have HB2 := Lib.hid (HB1.out.grown hs2.grown hlt)
              have HZ2 : w.heap.size ≤ w2.heap.size := HS2.out.grown.size
              clear c0 c1 f0 f1 hs2 hr HU
              obtain ⟨c0, c1, f0, f1, _⟩ := HS2.out.at'
              go_wp2_with fail
              refine (string_calls _ _ out _ HB2.out HZ2).mono ?_
              rintro e w9 ⟨rfl, _, hb9⟩
              have HS9 := Lib.hid (HS2.out.belowB hb9 hlt)
              clear hb9
              go_wp2
              go_ret
              rw [HO.out]
              exact ⟨_, _, rfl, HS9.out⟩
            | some p =>
              obtain ⟨o, r⟩ := p
              rw [hr] at hp
              obtain ⟨v, rfl, hv1, hv2, hs2, hv3⟩ := hp
              have hlr := esc_len2 lit t o r hr
              have HO := Lib.hid (HU.out.trans (by rw [HEs.out o r hr, Option.map_map]))
              have HS2 := Lib.hid (HS1.out.trans hs2)
              have HB2 := Lib.hid (HB1.out.grown hs2.grown hlt)
              have HE2 := Lib.hid (HE1.out.step hs2 hrb)
              have HZ2 : w.heap.size ≤ w2.heap.size := HS2.out.grown.size
              have HV2 := Lib.hid hv2
              have HV3 := Lib.hid hv3
              clear c0 c1 f0 f1 hs2 hr HU hv2 hv3
              obtain ⟨c0, c1, f0, f1, _⟩ := HS2.out.at'
              go_wp2_with fail
              refine (writeRune_calls _ _ out v (by omega) _ HB2.out (by omega) HZ2).mono ?_
              rintro e w8 ⟨⟨v8, rfl⟩, hb8, hbel8⟩
              have HR8 : Hid (Rnd w w8 rb l r (out ++ o) stop lit) := Lib.hid ⟨HS2.out.belowB hbel8 hlt, HV2.out ▸ hb8, HE2.out.belowB hbel8 hlow, HV3.out, by simp; omega, HO.out.trans (by congr 1; funext x; simp)⟩
              clear hb8 hbel8
              go_wp2
              go_roundg (r.length + 1)
              case measure => have := hNt.out; omega
              case rel => exact ⟨r, _, Lib.hid rfl, HR8⟩
          · have e2 : ((b.toNat : Int) == 92) = false := by
              rw [beq_eq_false_iff_ne]
              intro e
              exact b2 (UInt8.toNat_inj.1 (by show b.toNat = 92; omega))
            by_cases b3 : lit = true ∧ (b = 10 ∨ b = 13)
            · obtain ⟨hl1, b3⟩ := b3
              subst hl1
              have HO : Hid (up stop true true l = none) := Lib.hid (HU.out.trans (by rw [up_line stop true true b t b1 b2 ⟨rfl, b3⟩]; rfl))
              have h3 : ((b.toNat : Int) == 10) = true ∨ ((b.toNat : Int) == 10) = false ∧ ((b.toNat : Int) == 13) = true := by
                rcases b3 with rfl | rfl
                · exact .inl rfl
                · exact .inr ⟨rfl, rfl⟩
              clear b1 b2 b3 HU
              have HS3 := Lib.hid (HS1.out.set1 true)
              have HB3 := Lib.hid (HB1.out.grown (Rd.grown_setCell w1 ⟨rb, 1, none⟩ (.bool true)) hlt)
              rcases h3 with h3 | ⟨h3, h4⟩
              all_goals
                go_wp2_with fail
                refine (string_calls _ _ out _ HB3.out (by rw [World.size_setCell]; exact HZ1)).mono ?_
                rintro e w9 ⟨rfl, _, hb9⟩
                have HS9 := Lib.hid (HS3.out.belowB hb9 hlt)
                clear hb9
                go_wp2
                go_ret
                rw [HO.out]
                exact ⟨_, _, rfl, HS9.out⟩
            · have HO := Lib.hid (HU.out.trans (by rw [up_other stop lit lit b t b1 b2 b3, Option.map_map]))
              have henc : Hid (encodeRune (b.toNat : Int) = [b]) := Lib.hid (by
                rw [encodeRune, encodeRuneZ_one (by omega) (by omega)]
                simp)
              have h3 : lit = false ∨ (lit = true ∧ ((b.toNat : Int) == 10) = false ∧ ((b.toNat : Int) == 13) = false) := by
                cases lit with
                | false => exact .inl rfl
                | true =>
                  refine .inr ⟨rfl, ?_, ?_⟩
                  · rw [beq_eq_false_iff_ne]; intro e; exact b3 ⟨rfl, .inl (UInt8.toNat_inj.1 (by show b.toNat = 10; omega))⟩
                  · rw [beq_eq_false_iff_ne]; intro e; exact b3 ⟨rfl, .inr (UInt8.toNat_inj.1 (by show b.toNat = 13; omega))⟩
              clear b1 b2 b3 HU
              rcases h3 with rfl | ⟨rfl, h3, h4⟩
              all_goals
                go_wp2_with fail
                refine (writeRune_calls _ _ out b.toNat (by omega) _ HB1.out (by omega) HZ1).mono ?_
                rintro e w8 ⟨⟨v8, rfl⟩, hb8, hbel8⟩
                have HR8 : Hid (Rnd w w8 rb l t (out ++ [b]) stop _) := Lib.hid ⟨HS1.out.belowB hbel8 hlt, henc.out ▸ hb8, HE1.out.belowB hbel8 hlow, HV.out, by simp; omega, HO.out.trans (by congr 1; funext x; simp)⟩
                clear hb8 hbel8
                go_wp2
                go_roundg (t.length + 1)
                case measure => have := hNt.out; omega
                case rel => exact ⟨t, _, Lib.hid rfl, HR8⟩
      · rw [hc.dec] at HT
        dsimp only at HT
        rw [hc.eq, List.drop_left] at HT
        have HC := Lib.hid hc
        have c128 := hc.ge
        have cle := hc.le
        have hc2 := hc.two
        have hc4 := hc.four
        have hqe : q.length = ch.length + t.length := by rw [hc.eq, List.length_append]
        have hNt : Hid (t.length + 1 < gk) := Lib.hid (by rw [HN.out]; omega)
        have hbt : out.length + ch.length + t.length ≤ l.length := by omega
        have HO : Hid (up stop lit lit l = (up stop lit lit t).map fun x => ((out ++ ch) ++ x.1, x.2)) := Lib.hid (HR.out.says.trans (by
          rw [hc.eq, up_chunk stop hst lit lit t ch hc.high, Option.map_map]
          congr 1
          funext x
          simp))
        clear r1 r2 r3 r4 hne hc hqe
        go_wp2_with fail
        refine HT.out.mono ?_
        rintro e w1 ⟨rfl, hs1⟩
        have HS1 := Lib.hid (HR.out.step.trans hs1)
        have HB1 := Lib.hid (HR.out.bld.grown hs1.grown hlt)
        have HE1 := Lib.hid (HR.out.env.step hs1 hrb)
        have HZ1 : w.heap.size ≤ w1.heap.size := HS1.out.grown.size
        clear c0 c1 f0 f1 hs1 HT HR
        obtain ⟨c0, c1, f0, f1, _⟩ := HS1.out.at'
        have e1 : ((c : Int) == (stop.toNat : Int)) = false := by rw [beq_eq_false_iff_ne]; omega
        have e2 : ((c : Int) == 92) = false := by rw [beq_eq_false_iff_ne]; omega
        have e3 : ((c : Int) == 10) = false := by rw [beq_eq_false_iff_ne]; omega
        have e4 : ((c : Int) == 13) = false := by rw [beq_eq_false_iff_ne]; omega
        cases lit
        all_goals
          go_wp2_with fail
          refine (writeRune_calls _ _ out c (by omega) _ HB1.out (by omega) HZ1).mono ?_
          rintro e w8 ⟨⟨v8, rfl⟩, hb8, hbel8⟩
          have HR8 : Hid (Rnd w w8 rb l t (out ++ ch) stop _) := Lib.hid ⟨HS1.out.belowB hbel8 hlt, HC.out.enc ▸ hb8, HE1.out.belowB hbel8 hlow, HC.out.rest, by simp; omega, HO.out⟩
          clear hb8 hbel8
          go_wp2
          go_roundg (t.length + 1)
          case measure => have := hNt.out; omega
          case rel => exact ⟨t, _, Lib.hid rfl, HR8⟩
end Go.Proofs.YtmcoloapiiakbaaGreatDoor.Prg
