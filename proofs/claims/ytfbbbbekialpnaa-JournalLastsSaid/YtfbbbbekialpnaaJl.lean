/-
  JournalLasts: the walk (printed by wip/tools/gen_jl.py).
-/
import Derived.Test.YtfbbbbekialpnaaJc
namespace Go.Proofs.Ytfbbbbekialpnaa
open Go.RowKit
set_option maxRecDepth 100000
set_option maxHeartbeats 400000

/-- between two turns: a disk, its records, and the row that holds them. -/
structure Turn (w : World) (d : Nat) (sv : Value) (l : List Rc) (wr : World) : Prop where
  ex : ∃ o S, DA w d o S wr ∧ St S l [] 0 ∧ S.dead = false ∧ Kp o wr w.heap.size 3 sv l.length (rcL l)
structure Adds (w : World) (d jb : Nat) (sv : Value) (l : List Rc) (b : Nat) (wr : World) : Prop where
  ex : ∃ o S v, DA w d o S wr ∧ St S l [] b ∧ S.dead = false ∧ S.fs = JnF l ∧ JR wr w.heap.size o jb d v l ∧ Kp (jo o jb v) wr w.heap.size 3 sv l.length (rcL l)
theorem Adds.ext {w : World} {d jb : Nat} {sv : Value} {l : List Rc} {b : Nat} {wr w' : World} (h : Adds w d jb sv l b wr) (g : wr.grownBy w' none) : Adds w d jb sv l b w' := by
  obtain ⟨o, S, v, h1, h2, h3, h4, h5, h6⟩ := h.ex
  exact ⟨o, S, v, h1.ext g, h2, h3, h4, h5.ch (Ch.ext g), h6.ext g⟩
set_option maxHeartbeats 8000000 in
theorem lasts_any (v : Value) (R : List Rc) (v1 : Value) (F : List Int) (v2 : Value) (KK : List (List Int)) (w : World) (h : RdR w v R) (h1 : RdI w v1 F) (hF : ∀ z ∈ F, -9223372036854775808 ≤ z ∧ z ≤ 9223372036854775807) (h2 : RdII w v2 KK) :
    Calls Try.prog 5 #[v, v1, v2] w fun e w' => e = .returned (.bool true) ∧ w.grownBy w' none := by
  obtain ⟨A, c0, rfl⟩ := h.form
  obtain ⟨A1, c1, rfl⟩ := h1.form
  obtain ⟨A2, c2, rfl⟩ := h2.form
  have HV := Lib.hid h
  have HV1 := Lib.hid h1
  have HV2 := Lib.hid h2
  have HFB := Lib.hid hF
  clear h h1 h2 hF
  by_cases hb1 : 40 < R.length
  · go_enter Try.func5, Try.ntmps5
    go_wp2_with (go_at_call 29; refine (works_any _).mono ?_; rintro e w1 ⟨rfl, g1⟩)
    go_ret
    exact ⟨rfl, g1⟩
  by_cases hb2 : 20 < F.length
  · go_enter Try.func5, Try.ntmps5
    go_wp2_with (go_at_call 29; refine (works_any _).mono ?_; rintro e w1 ⟨rfl, g1⟩)
    go_ret
    exact ⟨rfl, g1⟩
  by_cases hb3 : 20 < KK.length
  · go_enter Try.func5, Try.ntmps5
    go_wp2_with (go_at_call 29; refine (works_any _).mono ?_; rintro e w1 ⟨rfl, g1⟩)
    go_ret
    exact ⟨rfl, g1⟩
  have hl1 : R.length ≤ 40 := by omega
  have hl2 : F.length ≤ 20 := by omega
  have hl3 : KK.length ≤ 20 := by omega
  have d1 : decide ((40 : Int) < (R.length : Int)) = false := by simp; omega
  have d2 : decide ((20 : Int) < (F.length : Int)) = false := by simp; omega
  have d3 : decide ((20 : Int) < (KK.length : Int)) = false := by simp; omega
  clear hb1 hb2 hb3
  obtain ⟨gR, offR, hAR, -, -, hcR⟩ := HV.out.at_
  have HAR := Lib.hid hAR
  have HCR := Lib.hid hcR
  obtain ⟨-, _, _, gF, offF, eF, hncF, -, -, hAF, hxF⟩ := HV1.out
  cases eF
  have HAF := Lib.hid hAF
  have HCF : Hid (∀ k (hk : k < F.length), w.cell? ⟨gF, offF + k, none⟩ = some (.int .i64 F[k])) := fun k hk => by
    show w.cell? ⟨gF, offF + k, none⟩ = _
    rw [hxF k (by omega)]; simp [intL, hk]
  obtain ⟨gK, offK, hAK, -, -, hcK⟩ := HV2.out.at_
  have HAK := Lib.hid hAK
  have HCK := Lib.hid hcK
  clear hAR hcR hAF hxF hAK hcK
  have HNEW := Lib.hid (fun wx => DA.new 1024 wx (by omega))
  go_enter Try.func5, Try.ntmps5
  go_wp2
  go_loop [7] (fun i => ∃ k : Nat, k ≤ KK.length ∧ i = .int .i64 k ∧ Hid (∀ j, j < k → (KK.getD j []).length ≤ 100)) (fun i => KK.length - (intOf i).toNat)
  case atStart => exact ⟨0, by omega, rfl, fun j hj => by omega⟩
  case round =>
    obtain ⟨k, hk, rfl, hall⟩ := hrel
    by_cases hlt : k < KK.length
    · have := HAK.out (by omega)
      subst this
      obtain ⟨Ai, ci, hc, -⟩ := HCK.out k hlt
      by_cases hbig : 100 < (KK.getD k []).length
      · obtain ⟨m, hm⟩ : ∃ m, m = (KK.getD k []).length := ⟨_, rfl⟩
        rw [← hm] at hc hbig
        clear hm
        go_wp2_with (go_at_call 29; refine (works_any _).mono ?_; rintro e w1 ⟨rfl, g1⟩)
        go_ret
        exact ⟨rfl, g1⟩
      · have HALL : Hid (∀ j, j < k + 1 → (KK.getD j []).length ≤ 100) := fun j hj => by
          rcases Nat.lt_succ_iff_lt_or_eq.1 hj with h | h
          · exact hall.out j h
          · rw [h]; omega
        obtain ⟨m, hm⟩ : ∃ m, m = (KK.getD k []).length := ⟨_, rfl⟩
        rw [← hm] at hc hbig
        have hbig2 : m ≤ 100 := by omega
        clear hm hbig
        go_wp2
        go_round
        case rel => exact ⟨k + 1, by omega, by go_num, HALL⟩
        case measure => simp [intOf] <;> omega
    · obtain rfl : k = KK.length := by omega
      have HK100 := Lib.hid hall.out
      clear hall
      go_wp2_with fail
      refine (HNEW.out _).mono ?_
      rintro e w1 ⟨d, o1, rfl, h1⟩
      have HT0 : Hid (Turn w d (.slice none 0 0) [] w1) := ⟨o1, _, h1, St.new, rfl, ⟨Own.nil _ _ _, fun k e => by cases e⟩⟩
      clear h1 HNEW
      go_wp2
      go_loopw [10, 11, 12, 13, 14, 15, 16, 17, 18, 19, 20, 21] (fun sv at_ tu _ _ _ _ _ _ _ _ _ wr => ∃ (t a : Nat) (l : List Rc), t ≤ F.length + 1 ∧ tu = .int .i64 t ∧ a ≤ R.length ∧ at_ = .int .i64 a ∧ l.length ≤ a ∧ Hid (Turn w d sv l wr)) (fun _ _ tu _ _ _ _ _ _ _ _ _ _ => F.length + 1 - (intOf tu).toNat)
      case atStart => exact ⟨0, 0, [], by omega, rfl, by omega, rfl, by simp, HT0⟩
      case round =>
        obtain ⟨t, a, l, ht, rfl, ha, rfl, hla, htu⟩ := hrel
        obtain ⟨o, S, hda, hst, hdead, hkp⟩ := htu.out.ex
        obtain ⟨As, cs, rfl⟩ := RdR.form (Own.rd hkp.own)
        have HD := Lib.hid hda
        have HST := Lib.hid hst
        have HDE := Lib.hid hdead
        have HKP := Lib.hid hkp
        clear hda hst hdead hkp htu HT0
        by_cases htl : t < F.length
        · have := HAF.out (by omega)
          subst this
          have hcf := HD.out.gr.cell (HCF.out t htl) (by simp)
          have hzb := HFB.out _ (List.getElem_mem htl)
          obtain ⟨z, hz⟩ : ∃ z, z = F[t] := ⟨_, rfl⟩
          rw [← hz] at hcf hzb
          have hmb : 0 ≤ max z 0 ∧ max z 0 ≤ 9223372036854775807 := by omega
          have HARM : Hid (∀ y : Int, y = 1 + max z 0 % 30 → Calls Try.prog 24 #[.pointer (some ⟨d, 0, none⟩), .int .i64 y] wr fun e w' => e = .returned (.int .i64 0) ∧ ∃ S1 o1, DA w d o1 S1 w' ∧ Ch o wr o1 w' ∧ St S1 l [] 0 ∧ S1.dead = false) := fun y hy => by
            have h1 : 0 ≤ y ∧ y ≤ 30 := by omega
            refine (HD.out.arm y (by omega)).mono ?_
            have e : S.arm y = ({ S with armed := y.toNat }, 0) := by unfold Dk.arm; rw [if_neg (by omega), if_neg (by rw [HDE.out]; simp)]
            rw [e]
            rintro e w' ⟨rfl, o1, h1, h2⟩
            exact ⟨rfl, _, o1, h1, h2, HST.out.same rfl rfl rfl rfl, HDE.out⟩
          have hteq : ((t : Int) == (F.length : Int)) = false := by rw [beq_eq_false_iff_ne]; omega
          have hr1 : IntKind.i64.wrap (max z 0 % 30) = max z 0 % 30 := by rw [IntWalk.i64_in _ (by omega)]
          have hr2 : IntKind.i64.wrap (1 + max z 0 % 30) = 1 + max z 0 % 30 := by rw [IntWalk.i64_in _ (by omega)]
          clear hz
          go_wp2_with fail
          refine (HARM.out _ rfl).mono ?_
          rintro e w2 ⟨rfl, S1, o1, h2, ch2, st2, dd2⟩
          as_aux_lemma =>
            have K2 := Lib.hid (HKP.out.ch ch2 (by omega))
            have HZ2 := Lib.hid h2.gr.size
            have HOP := Lib.hid (h2.openG st2 dd2 (by omega))
            clear h2 ch2 st2 dd2 HARM HD HST HDE HKP
            go_wp2_with fail
            refine HOP.out.mono ?_
            rintro e w3 ⟨S3, o3, h3, ch3, st3, -, hor⟩
            rcases hor with ⟨d3, rfl⟩ | ⟨d3, f3, jb, jv, rfl, j3⟩
            · have HD4 := Lib.hid h3
              have ST4 := Lib.hid (st3.mono (b' := 5000) (by omega))
              have DE4 := Lib.hid d3
              have K4 := Lib.hid (K2.out.ch ch3 (by omega))
              have HDD := Lib.hid h3.dead
              rw [d3] at HDD
              clear h3 st3 d3 ch3 K2 HOP
              go_wp2_with fail
              refine HDD.out.mono ?_
              rintro e w4 ⟨rfl, rfl⟩
              clear HDD
              as_aux_lemma =>
                by_cases tk : t < KK.length
                · have := HAK.out (by omega)
                  subst this
                  obtain ⟨Ak, ck, hck, hkr⟩ := HCK.out t tk
                  have hm100 := HK100.out t tk
                  obtain ⟨m, hm⟩ : ∃ m, m = KK.getD t [] := ⟨_, rfl⟩
                  rw [← hm] at hck hkr hm100
                  have hck4 := HD4.out.gr.cell hck (by simp)
                  have HKV : Hid (∀ wx, w.grownBy wx none → RdI wx (.slice Ak m.length ck) m) := fun wx hx => hkr.ext hx
                  clear hm hck hkr
                  go_wp2_with (at_builtin; refine wp_appI (m := m) (l := []) rfl (.tmp 162) (.tmp 163) rfl rfl (own_emptyI _ _ (Nat.le_refl _)) rfl (HKV.out _ (gr_none HD4.out.gr (gr_alloc _ _ none))) (by simp; omega) (by simp) ?_; rintro v11 w11 o11 g11 -)
                  rw [List.nil_append] at o11
                  have g12 : World.grownBy w3 w11 none := gr_trans (gr_alloc _ _ _) g11 (.inr (fun g e => by cases e; exact Nat.le_refl _))
                  have HD11 := Lib.hid (HD4.out.ext g12)
                  have K11 := Lib.hid (K4.out.ext g12)
                  have HON := Lib.hid (HD11.out.on ST4.out.looseIn (by have := ST4.out.nl; omega) (by have := ST4.out.few; omega) DE4.out (keep := m) (Own.rd o11) (by first | omega | simp))
                  clear o11 g11 g12 HKV HD4 K4 hck4 
                  go_wp2_with fail
                  refine HON.out.mono ?_
                  rintro e w12 ⟨rfl, ls, hls, o12, h12, ch12⟩
                  obtain ⟨l6, hl6, st12⟩ := ST4.out.lit (keep := m) hls (by have := ST4.out.x1; rw [List.length_append]; omega)
                  have K12 := Lib.hid (K11.out.ch ch12 (by omega))
                  clear hls ch12 HON HD11 K11 ST4 DE4 
                  have hl7 : l6 = l := by
                    rcases hl6 with h | h
                    · exact h
                    · simpa using h
                  clear hl6
                  rw [hl7] at st12
                  have HOP := Lib.hid (h12.openG st12 rfl (by omega))
                  clear h12 st12 hl7
                  go_wp2_with fail
                  refine HOP.out.mono ?_
                  rintro e w13 ⟨S13, o13, h13, ch13, st13, hz13, hor⟩
                  obtain ⟨da13, -⟩ := hz13 rfl
                  rcases hor with ⟨dx, -⟩ | ⟨-, -, jb13, jv13, rfl, j13⟩
                  · rw [da13] at dx; cases dx
                  have K13 := Lib.hid (K12.out.ch ch13 (by omega))
                  have HR13 := Lib.hid (recs_any j13 (by omega))
                  have H13 := Lib.hid h13
                  have ST13 := Lib.hid st13
                  have DA13 := Lib.hid da13
                  clear h13 ch13 st13 hz13 da13 j13 HOP K12 
                  go_wp2_with fail
                  refine HR13.out.mono ?_
                  rintro e w14 ⟨⟨v14, rfl, b14⟩, g14⟩
                  obtain ⟨A14, c14, rfl⟩ := b14.rd.form
                  have K14 := Lib.hid (K13.out.ext g14)
                  have H14 := Lib.hid (H13.out.ext g14)
                  have HBG := Lib.hid (begins_any _ _ l l w14 b14.rd (Own.rd K14.out.own) (by omega) (by simp) (by simp))
                  have B14 := Lib.hid b14.rd
                  clear b14 g14 HR13 K13 H13 
                  go_wp2_with fail
                  refine HBG.out.mono ?_
                  rintro e w15 ⟨rfl, g15⟩
                  have K15 := Lib.hid (K14.out.ext g15)
                  have H15 := Lib.hid (H14.out.ext g15)
                  have hd9 : decide ((l.length : Int) + 1 < (l.length : Int)) = false := by simp only [decide_eq_false_iff_not]; omega
                  have hd8 : decide ((l.length : Int) + 0 < (l.length : Int)) = false := by simp only [decide_eq_false_iff_not]; omega
                  clear g15 HBG K14 H14 B14 
                  go_wp2
                  go_roundw
                  case rel => exact ⟨t + 1, a, l, by omega, by go_num, by omega, by go_num, by omega, ⟨_, _, H15.out, ST13.out, DA13.out, K15.out⟩⟩
                  case measure => simp [intOf] <;> omega
                · have HKV : Hid (∀ wx, w.grownBy wx none → RdI wx (.slice none 0 0) []) := fun wx hx => Rd.nil _ _
                  have htk : (KK.length : Int) ≤ (t : Nat) := by omega
                  clear tk
                  go_wp2_with (at_builtin; refine wp_appI (m := []) (l := []) rfl (.tmp 162) (.tmp 163) rfl rfl (own_emptyI _ _ (Nat.le_refl _)) rfl (HKV.out _ (gr_none HD4.out.gr (gr_alloc _ _ none))) (by simp) (by simp) ?_; rintro v11 w11 o11 g11 -)
                  rw [List.nil_append] at o11
                  have g12 : World.grownBy w3 w11 none := gr_trans (gr_alloc _ _ _) g11 (.inr (fun g e => by cases e; exact Nat.le_refl _))
                  have HD11 := Lib.hid (HD4.out.ext g12)
                  have K11 := Lib.hid (K4.out.ext g12)
                  have HON := Lib.hid (HD11.out.on ST4.out.looseIn (by have := ST4.out.nl; omega) (by have := ST4.out.few; omega) DE4.out (keep := []) (Own.rd o11) (by first | omega | simp))
                  clear o11 g11 g12 HKV HD4 K4 
                  go_wp2_with fail
                  refine HON.out.mono ?_
                  rintro e w12 ⟨rfl, ls, hls, o12, h12, ch12⟩
                  obtain ⟨l6, hl6, st12⟩ := ST4.out.lit (keep := []) hls (by have := ST4.out.x1; rw [List.length_append]; omega)
                  have K12 := Lib.hid (K11.out.ch ch12 (by omega))
                  clear hls ch12 HON HD11 K11 ST4 DE4 
                  have hl7 : l6 = l := by
                    rcases hl6 with h | h
                    · exact h
                    · simpa using h
                  clear hl6
                  rw [hl7] at st12
                  have HOP := Lib.hid (h12.openG st12 rfl (by omega))
                  clear h12 st12 hl7
                  go_wp2_with fail
                  refine HOP.out.mono ?_
                  rintro e w13 ⟨S13, o13, h13, ch13, st13, hz13, hor⟩
                  obtain ⟨da13, -⟩ := hz13 rfl
                  rcases hor with ⟨dx, -⟩ | ⟨-, -, jb13, jv13, rfl, j13⟩
                  · rw [da13] at dx; cases dx
                  have K13 := Lib.hid (K12.out.ch ch13 (by omega))
                  have HR13 := Lib.hid (recs_any j13 (by omega))
                  have H13 := Lib.hid h13
                  have ST13 := Lib.hid st13
                  have DA13 := Lib.hid da13
                  clear h13 ch13 st13 hz13 da13 j13 HOP K12 
                  go_wp2_with fail
                  refine HR13.out.mono ?_
                  rintro e w14 ⟨⟨v14, rfl, b14⟩, g14⟩
                  obtain ⟨A14, c14, rfl⟩ := b14.rd.form
                  have K14 := Lib.hid (K13.out.ext g14)
                  have H14 := Lib.hid (H13.out.ext g14)
                  have HBG := Lib.hid (begins_any _ _ l l w14 b14.rd (Own.rd K14.out.own) (by omega) (by simp) (by simp))
                  have B14 := Lib.hid b14.rd
                  clear b14 g14 HR13 K13 H13 
                  go_wp2_with fail
                  refine HBG.out.mono ?_
                  rintro e w15 ⟨rfl, g15⟩
                  have K15 := Lib.hid (K14.out.ext g15)
                  have H15 := Lib.hid (H14.out.ext g15)
                  have hd9 : decide ((l.length : Int) + 1 < (l.length : Int)) = false := by simp only [decide_eq_false_iff_not]; omega
                  have hd8 : decide ((l.length : Int) + 0 < (l.length : Int)) = false := by simp only [decide_eq_false_iff_not]; omega
                  clear g15 HBG K14 H14 B14 
                  go_wp2
                  go_roundw
                  case rel => exact ⟨t + 1, a, l, by omega, by go_num, by omega, by go_num, by omega, ⟨_, _, H15.out, ST13.out, DA13.out, K15.out⟩⟩
                  case measure => simp [intOf] <;> omega
            · have HADDS : Hid (Adds w d jb (.slice As l.length cs) l (64 * a) w3) := ⟨o3, S3, jv, h3, st3.mono (by omega), d3, f3, j3.mono HZ2.out, K2.out.opened ch3 j3⟩
              have HR3 := Lib.hid (recs_any j3 (by omega))
              have G3 := Lib.hid h3.gr
              clear h3 ch3 st3 d3 f3 j3 K2 HOP
              go_wp2_with fail
              refine HR3.out.mono ?_
              rintro e w4 ⟨⟨v4, rfl, b4⟩, g4⟩
              obtain ⟨A4, c4, rfl⟩ := b4.rd.form
              have HADDS4 : Hid (Adds w d jb (.slice As l.length cs) l (64 * a) w4) := HADDS.out.ext g4
              have hbg := begins_any (.slice A4 l.length c4) (.slice As l.length cs) l l w4 b4.rd (by obtain ⟨o, S, v, -, -, -, -, -, k⟩ := HADDS4.out.ex; exact Own.rd k.own) (by omega) (Nat.le_refl _) (List.take_length)
              have HBG := Lib.hid hbg
              clear hbg b4 g4 HADDS HR3
              go_wp2_with fail
              refine HBG.out.mono ?_
              rintro e w5 ⟨rfl, g5⟩
              have HADDS5 : Hid (Adds w d jb (.slice As l.length cs) l (64 * a) w5) := HADDS4.out.ext g5
              clear g5 HBG HADDS4
              go_wp2
              go_loopw [10, 11, 13, 17, 18] (fun sv at_ un _ _ wr => ∃ (a' : Nat) (l' : List Rc), un = .slice none 0 0 ∧ a' ≤ R.length ∧ at_ = .int .i64 a' ∧ l'.length ≤ a' ∧ Hid (Adds w d jb sv l' (64 * a') wr)) (fun _ at_ _ _ _ _ => R.length - (intOf at_).toNat)
              case atStart => exact ⟨a, l, rfl, by omega, rfl, by omega, HADDS5⟩
              case round =>
                obtain ⟨a', l', rfl, ha', rfl, hla', hadds⟩ := hrel
                obtain ⟨o5, S5, jv5, hd5, st5, de5, f5, j5, k5⟩ := hadds.out.ex
                obtain ⟨As5, cs5, rfl⟩ := RdR.form (Own.rd k5.own)
                have HD5 := Lib.hid hd5
                have ST5 := Lib.hid st5
                have DE5 := Lib.hid de5
                have F5 := Lib.hid f5
                have J5 := Lib.hid j5
                have K5 := Lib.hid k5
                clear hd5 st5 de5 f5 j5 k5 hadds HADDS5
                by_cases hlt : a' < R.length
                · as_aux_lemma =>
                    have := HAR.out (by omega)
                    subst this
                    rcases hx : R[a'] with ⟨xa, xb, xc⟩
                    obtain ⟨q0, q1, q2⟩ := at3 HCR.out HD5.out.gr hlt hx
                    clear hx
                    by_cases h0 : xa = 0
                    · subst h0
                      have HZ : Hid (∀ wx : World, Calls Try.prog 33 #[.pointer (some ⟨jb, 0, none⟩), .agg #[.int .u32 0, .int .u32 xb.toNat, .int .u32 xc.toNat]] wx fun e w' => e = .returned (.int .i64 1) ∧ wx.grownBy w' none) := fun wx => add_zero ⟨0, xb, xc⟩ rfl
                      have HAX : Hid (∀ wx, wr.grownBy wx none → Adds w d jb (.slice As5 l'.length cs5) l' (64 * (a' + 1)) wx) := fun wx hx => ⟨_, _, _, HD5.out.ext hx, ST5.out.mono (by omega), DE5.out, F5.out, J5.out.ch (Ch.ext hx), K5.out.ext hx⟩
                      have HBX := Lib.hid (Blk.new wr 58 #[.int .u32 0, .int .u32 xb.toNat, .int .u32 xc.toNat])
                      clear HD5 ST5 DE5 F5 J5 K5
                      go_wp2_with fail
                      refine (HZ.out _).mono ?_
                      rintro e w6 ⟨rfl, g6⟩
                      have b6 : w6.cell? ⟨wr.heap.size, 0, none⟩ = some (.int .u32 0) := (HBX.out.ext g6).cell 0
                      have HA6 := Lib.hid (HAX.out _ (gr_none (gr_alloc wr _ none) g6))
                      clear g6 HZ HAX HBX
                      go_wp2
                      go_roundw
                      case rel => exact ⟨a' + 1, l', rfl, by omega, by go_num, by omega, HA6⟩
                      case measure => simp [intOf] <;> omega
                    · have hk0 : ((xa.toNat : Int) == 0) = false := by
                        rw [beq_eq_false_iff_ne]
                        intro e
                        exact h0 (UInt32.toNat_inj.1 (by simpa using e))
                      have HAG : Hid (∀ wx, wr.grownBy wx none → Calls Try.prog 33 #[.pointer (some ⟨jb, 0, none⟩), .agg #[.int .u32 xa.toNat, .int .u32 xb.toNat, .int .u32 xc.toNat]] wx (AddA w d o5 jb jv5 l' ⟨xa, xb, xc⟩ (64 * a') wx)) := fun wx hx =>
                        (HD5.out.ext hx).addG (J5.out.ch (Ch.ext hx)) ST5.out F5.out (by omega) (by omega) ⟨xa, xb, xc⟩ h0
                      have HBX := Lib.hid (Blk.new wr 58 #[.int .u32 xa.toNat, .int .u32 xb.toNat, .int .u32 xc.toNat])
                      have hjf : Hid (jo o5 jb jv5 wr.heap.size = none) := jo_fresh HD5.out J5.out (Nat.le_refl _)
                      have hzw := HD5.out.gr.size
                      clear h0
                      go_wp2_with fail
                      refine (HAG.out _ (gr_alloc _ _ none)).mono ?_
                      rintro e w6 ⟨S6, o6, jv6, lx, h6, j6, ch6, hor⟩
                      have K6 := Lib.hid ((K5.out.ext (gr_alloc _ _ none)).ch ch6 (by omega))
                      have bx6 := ch6.blk HBX.out hjf.out
                      have b0 : w6.cell? ⟨wr.heap.size, 0, none⟩ = some (.int .u32 xa.toNat) := bx6.cell 0
                      have b1 : w6.cell? ⟨wr.heap.size, 1, none⟩ = some (.int .u32 xb.toNat) := bx6.cell 1
                      have b2 : w6.cell? ⟨wr.heap.size, 2, none⟩ = some (.int .u32 xc.toNat) := bx6.cell 2
                      have HZ6 := Lib.hid h6.gr.size
                      have H6 := Lib.hid h6
                      have J6 := Lib.hid j6
                      clear h6 j6 ch6 bx6 HAG HBX hjf HD5 ST5 DE5 F5 J5 K5
                      rcases hor with ⟨rfl, d6, f6, st6, rfl⟩ | ⟨rfl, d6, x, hx6, st6⟩
                      · have D6 := Lib.hid d6
                        have F6 := Lib.hid f6
                        have ST6 := Lib.hid st6
                        clear d6 f6 st6
                        go_wp2_with (at_builtin; refine wp_app1RK (w := w6) ⟨xa, xb, xc⟩ _ rfl rfl (.tmp 136) (.tmp 138) rfl rfl K6.out.own _ rfl rfl (by omega) HZ6.out ?_; intro v8 w8 o8 e8)
                        have HA8 : Hid (Adds w d jb v8 (l' ++ [⟨xa, xb, xc⟩]) (64 * (a' + 1)) w8) := by
                          have k1 := H6.out.ext (gr_alloc w6 (.cells #[.int .u32 xa.toNat, .int .u32 xb.toNat, .int .u32 xc.toNat] 58) none)
                          have k2 := J6.out.ch (Ch.ext (gr_alloc w6 (.cells #[.int .u32 xa.toNat, .int .u32 xb.toNat, .int .u32 xc.toNat] 58) none))
                          have k3 := K6.out.ext (gr_alloc w6 (.cells #[.int .u32 xa.toNat, .int .u32 xb.toNat, .int .u32 xc.toNat] 58) none)
                          exact ⟨_, _, _, k1.grown k3.unjo e8, ST6.out.mono (by omega), D6.out, F6.out, k2.grown k3 e8, Kp.grownJ k1 k2 k3 e8 o8⟩
                        clear o8 e8 H6 J6 K6 ST6 F6 D6
                        go_roundw
                        case rel => exact ⟨a' + 1, _, rfl, by omega, by go_num, by simp; omega, HA8⟩
                        case measure => simp [intOf] <;> omega
                      · have HD6 := Lib.hid (H6.out.ext (gr_alloc w6 (.cells #[.int .u32 xa.toNat, .int .u32 xb.toNat, .int .u32 xc.toNat] 58) none))
                        have HDD := Lib.hid HD6.out.dead
                        rw [d6] at HDD
                        have DE4 := Lib.hid d6
                        have ST4 := Lib.hid (st6.mono (b' := 5000) (by omega))
                        have HX := Lib.hid hx6
                        have K4 := Lib.hid (K6.out.unjo.ext (gr_alloc w6 (.cells #[.int .u32 xa.toNat, .int .u32 xb.toNat, .int .u32 xc.toNat] 58) none))
                        have U4 : Hid (Kp o6 (w6.alloc (.cells #[.int .u32 xa.toNat, .int .u32 xb.toNat, .int .u32 xc.toNat] 58)) w.heap.size 3 (.slice (some ⟨w6.heap.size, 0, none⟩) 1 1) 1 (rcL [⟨xa, xb, xc⟩])) := ⟨own_lit w6 w.heap.size 3 1 1 #[.int .u32 xa.toNat, .int .u32 xb.toNat, .int .u32 xc.toNat] 58 (0, 0) (.inr (by simp)) rfl (Nat.le_refl _) (by unfold maxLen; omega) HZ6.out, fun k e => by
                          have : k = w6.heap.size := by simpa [blk] using e.symm
                          rw [this]; exact H6.out.fresh (Nat.le_refl _)⟩
                        clear d6 st6 hx6 H6 J6 K6
                        go_wp2_with fail
                        refine HDD.out.mono ?_
                        rintro e w7 ⟨rfl, rfl⟩
                        clear HDD
                        have HD4 := HD6
                        clear HD6
                        obtain ⟨W7, hW7⟩ : ∃ W7, W7 = w6.alloc (.cells #[.int .u32 xa.toNat, .int .u32 xb.toNat, .int .u32 xc.toNat] 58) := ⟨_, rfl⟩
                        rw [← hW7] at HD4 K4 U4 ⊢
                        clear hW7
                        as_aux_lemma =>
                          by_cases tk : t < KK.length
                          · have := HAK.out (by omega)
                            subst this
                            obtain ⟨Ak, ck, hck, hkr⟩ := HCK.out t tk
                            have hm100 := HK100.out t tk
                            obtain ⟨m, hm⟩ : ∃ m, m = KK.getD t [] := ⟨_, rfl⟩
                            rw [← hm] at hck hkr hm100
                            have hck4 := HD4.out.gr.cell hck (by simp)
                            have HKV : Hid (∀ wx, w.grownBy wx none → RdI wx (.slice Ak m.length ck) m) := fun wx hx => hkr.ext hx
                            clear hm hck hkr
                            go_wp2_with (at_builtin; refine wp_appI (m := m) (l := []) rfl (.tmp 162) (.tmp 163) rfl rfl (own_emptyI _ _ (Nat.le_refl _)) rfl (HKV.out _ (gr_none HD4.out.gr (gr_alloc _ _ none))) (by simp; omega) (by simp) ?_; rintro v11 w11 o11 g11 -)
                            rw [List.nil_append] at o11
                            have g12 : World.grownBy W7 w11 none := gr_trans (gr_alloc _ _ _) g11 (.inr (fun g e => by cases e; exact Nat.le_refl _))
                            have HD11 := Lib.hid (HD4.out.ext g12)
                            have K11 := Lib.hid (K4.out.ext g12)
                            have U11 := Lib.hid (U4.out.ext g12)
                            have HON := Lib.hid (HD11.out.on ST4.out.looseIn (by have := ST4.out.nl; omega) (by have := ST4.out.few; omega) DE4.out (keep := m) (Own.rd o11) (by first | omega | simp))
                            clear o11 g11 g12 HKV HD4 K4 hck4 
                            go_wp2_with fail
                            refine HON.out.mono ?_
                            rintro e w12 ⟨rfl, ls, hls, o12, h12, ch12⟩
                            obtain ⟨l6, hl6, st12⟩ := ST4.out.lit (keep := m) hls (by have := ST4.out.x1; rw [List.length_append]; omega)
                            have K12 := Lib.hid (K11.out.ch ch12 (by omega))
                            have U12 := Lib.hid (U11.out.ch ch12 (by omega))
                            clear hls ch12 HON HD11 K11 ST4 DE4 U11
                            have hl7 : l6 = l' ∨ l6 = l' ++ [⟨xa, xb, xc⟩] := by
                              rcases hl6 with h | h
                              · exact .inl h
                              · rcases HX.out with e | e
                                · rw [e, List.append_nil] at h; exact .inl h
                                · rw [e] at h; exact .inr h
                            clear hl6 HX
                            rcases hl7 with hl7 | hl7
                            · rw [hl7] at st12
                              have HOP := Lib.hid (h12.openG st12 rfl (by omega))
                              clear h12 st12 hl7
                              go_wp2_with fail
                              refine HOP.out.mono ?_
                              rintro e w13 ⟨S13, o13, h13, ch13, st13, hz13, hor⟩
                              obtain ⟨da13, -⟩ := hz13 rfl
                              rcases hor with ⟨dx, -⟩ | ⟨-, -, jb13, jv13, rfl, j13⟩
                              · rw [da13] at dx; cases dx
                              have K13 := Lib.hid (K12.out.ch ch13 (by omega))
                              have U13 := Lib.hid (U12.out.ch ch13 (by omega))
                              have HR13 := Lib.hid (recs_any j13 (by omega))
                              have H13 := Lib.hid h13
                              have ST13 := Lib.hid st13
                              have DA13 := Lib.hid da13
                              clear h13 ch13 st13 hz13 da13 j13 HOP K12 U12
                              go_wp2_with fail
                              refine HR13.out.mono ?_
                              rintro e w14 ⟨⟨v14, rfl, b14⟩, g14⟩
                              obtain ⟨A14, c14, rfl⟩ := b14.rd.form
                              have K14 := Lib.hid (K13.out.ext g14)
                              have U14 := Lib.hid (U13.out.ext g14)
                              have H14 := Lib.hid (H13.out.ext g14)
                              have HBG := Lib.hid (begins_any _ _ l' l' w14 b14.rd (Own.rd K14.out.own) (by omega) (by simp) (by simp))
                              have B14 := Lib.hid b14.rd
                              clear b14 g14 HR13 K13 H13 U13
                              go_wp2_with fail
                              refine HBG.out.mono ?_
                              rintro e w15 ⟨rfl, g15⟩
                              have K15 := Lib.hid (K14.out.ext g15)
                              have H15 := Lib.hid (H14.out.ext g15)
                              have U15 := Lib.hid (U14.out.ext g15)
                              have hd9 : decide ((l'.length : Int) + 1 < (l'.length : Int)) = false := by simp only [decide_eq_false_iff_not]; omega
                              have hd8 : decide ((l'.length : Int) + 0 < (l'.length : Int)) = false := by simp only [decide_eq_false_iff_not]; omega
                              clear g15 HBG K14 H14 B14 U14 U15
                              go_wp2
                              go_roundw
                              case rel => exact ⟨t + 1, a' + 1, l', by omega, by go_num, by omega, by go_num, by omega, ⟨_, _, H15.out, ST13.out, DA13.out, K15.out⟩⟩
                              case measure => simp [intOf] <;> omega
                            · rw [hl7] at st12
                              have HOP := Lib.hid (h12.openG st12 rfl (by simp; omega))
                              clear h12 st12 hl7
                              go_wp2_with fail
                              refine HOP.out.mono ?_
                              rintro e w13 ⟨S13, o13, h13, ch13, st13, hz13, hor⟩
                              obtain ⟨da13, -⟩ := hz13 rfl
                              rcases hor with ⟨dx, -⟩ | ⟨-, -, jb13, jv13, rfl, j13⟩
                              · rw [da13] at dx; cases dx
                              have K13 := Lib.hid (K12.out.ch ch13 (by omega))
                              have U13 := Lib.hid (U12.out.ch ch13 (by omega))
                              have HR13 := Lib.hid (recs_any j13 (by simp; omega))
                              have H13 := Lib.hid h13
                              have ST13 := Lib.hid st13
                              have DA13 := Lib.hid da13
                              clear h13 ch13 st13 hz13 da13 j13 HOP K12 U12
                              go_wp2_with fail
                              refine HR13.out.mono ?_
                              rintro e w14 ⟨⟨v14, rfl, b14⟩, g14⟩
                              obtain ⟨A14, c14, rfl⟩ := b14.rd.form
                              have K14 := Lib.hid (K13.out.ext g14)
                              have U14 := Lib.hid (U13.out.ext g14)
                              have H14 := Lib.hid (H13.out.ext g14)
                              have HBG := Lib.hid (begins_any _ _ (l' ++ [⟨xa, xb, xc⟩]) l' w14 b14.rd (Own.rd K14.out.own) (by simp; omega) (by simp) (by simp))
                              have B14 := Lib.hid b14.rd
                              clear b14 g14 HR13 K13 H13 U13
                              have hlen : (l' ++ [(⟨xa, xb, xc⟩ : Rc)]).length = l'.length + 1 := by simp
                              rw [hlen] at HBG ⊢
                              have HLEN := Lib.hid hlen
                              clear hlen
                              go_wp2_with fail
                              refine HBG.out.mono ?_
                              rintro e w15 ⟨rfl, g15⟩
                              have K15 := Lib.hid (K14.out.ext g15)
                              have H15 := Lib.hid (H14.out.ext g15)
                              have U15 := Lib.hid (U14.out.ext g15)
                              obtain ⟨gL, offL, hAL, -, -, hcL⟩ := B14.out.at_
                              obtain rfl := hAL (by simp)
                              obtain ⟨y0, y1, y2⟩ := at3 hcL g15 (k := l'.length) (by simp) (a := xa) (b := xb) (c := xc) (by simp)
                              have z0 : w15.cell? ⟨w6.heap.size, 0, none⟩ = some (.int .u32 xa.toNat) := by
                                obtain ⟨_, _, _, _, _, e, _, _, _, hA, _, hx, _⟩ := U15.out.own
                                cases e
                                cases hA (by omega)
                                exact hx 0 (by omega)
                              have z1 : w15.cell? ⟨w6.heap.size, 1, none⟩ = some (.int .u32 xb.toNat) := by
                                obtain ⟨_, _, _, _, _, e, _, _, _, hA, _, hx, _⟩ := U15.out.own
                                cases e
                                cases hA (by omega)
                                exact hx 1 (by omega)
                              have z2 : w15.cell? ⟨w6.heap.size, 2, none⟩ = some (.int .u32 xc.toNat) := by
                                obtain ⟨_, _, _, _, _, e, _, _, _, hA, _, hx, _⟩ := U15.out.own
                                cases e
                                cases hA (by omega)
                                exact hx 2 (by omega)
                              have hne := run_neqR ⟨xa, xb, xc⟩ ⟨xa, xb, xc⟩
                              have heq : rcEq ⟨xa, xb, xc⟩ ⟨xa, xb, xc⟩ = true := (rcEq_iff ⟨xa, xb, xc⟩ ⟨xa, xb, xc⟩).2 rfl
                              rw [heq] at hne
                              simp only [Rc.cells] at hne
                              have HZ15 := Lib.hid H15.out.gr.size
                              clear heq hcL hAL g15 HBG K14 H14 B14 U14 U15 HLEN
                              go_wp2_with fail
                              go_quiet (fail)
                              clear hne
                              have HOWN9 : Hid (OwnR (w15.drewN nq) w.heap.size (.slice As5 l'.length cs5) l') := (K15.out.ext (gr_drewN _ _ none)).own
                              have HZZ9 : Hid (w.heap.size ≤ (w15.drewN nq).heap.size) := HZ15.out
                              go_wp2_with (at_builtin; refine wp_app1RK ⟨xa, xb, xc⟩ _ rfl rfl (.tmp 204) (.tmp 208) rfl rfl HOWN9.out _ rfl rfl (by omega) HZZ9.out ?_; intro v18 w18 o18 e18)
                              have HT18 : Hid (Turn w d v18 (l' ++ [⟨xa, xb, xc⟩]) w18) := by
                                have k1 := (H15.out.ext (gr_drewN w15 nq none)).ext (gr_alloc (w15.drewN nq) (.cells #[.int .u32 xa.toNat, .int .u32 xb.toNat, .int .u32 xc.toNat] 58) none)
                                have k2 := (K15.out.ext (gr_drewN w15 nq none)).ext (gr_alloc (w15.drewN nq) (.cells #[.int .u32 xa.toNat, .int .u32 xb.toNat, .int .u32 xc.toNat] 58) none)
                                exact ⟨_, _, k1.grown k2 e18, ST13.out, DA13.out, Kp.grown k1 k2 e18 o18⟩
                              clear o18 e18 H15 K15
                              go_roundw
                              case rel => exact ⟨t + 1, a' + 1, _, by omega, by go_num, by omega, by go_num, by simp; omega, HT18⟩
                              case measure => simp [intOf] <;> omega
                          · have HKV : Hid (∀ wx, w.grownBy wx none → RdI wx (.slice none 0 0) []) := fun wx hx => Rd.nil _ _
                            have htk : (KK.length : Int) ≤ (t : Nat) := by omega
                            clear tk
                            go_wp2_with (at_builtin; refine wp_appI (m := []) (l := []) rfl (.tmp 162) (.tmp 163) rfl rfl (own_emptyI _ _ (Nat.le_refl _)) rfl (HKV.out _ (gr_none HD4.out.gr (gr_alloc _ _ none))) (by simp) (by simp) ?_; rintro v11 w11 o11 g11 -)
                            rw [List.nil_append] at o11
                            have g12 : World.grownBy W7 w11 none := gr_trans (gr_alloc _ _ _) g11 (.inr (fun g e => by cases e; exact Nat.le_refl _))
                            have HD11 := Lib.hid (HD4.out.ext g12)
                            have K11 := Lib.hid (K4.out.ext g12)
                            have U11 := Lib.hid (U4.out.ext g12)
                            have HON := Lib.hid (HD11.out.on ST4.out.looseIn (by have := ST4.out.nl; omega) (by have := ST4.out.few; omega) DE4.out (keep := []) (Own.rd o11) (by first | omega | simp))
                            clear o11 g11 g12 HKV HD4 K4 
                            go_wp2_with fail
                            refine HON.out.mono ?_
                            rintro e w12 ⟨rfl, ls, hls, o12, h12, ch12⟩
                            obtain ⟨l6, hl6, st12⟩ := ST4.out.lit (keep := []) hls (by have := ST4.out.x1; rw [List.length_append]; omega)
                            have K12 := Lib.hid (K11.out.ch ch12 (by omega))
                            have U12 := Lib.hid (U11.out.ch ch12 (by omega))
                            clear hls ch12 HON HD11 K11 ST4 DE4 U11
                            have hl7 : l6 = l' ∨ l6 = l' ++ [⟨xa, xb, xc⟩] := by
                              rcases hl6 with h | h
                              · exact .inl h
                              · rcases HX.out with e | e
                                · rw [e, List.append_nil] at h; exact .inl h
                                · rw [e] at h; exact .inr h
                            clear hl6 HX
                            rcases hl7 with hl7 | hl7
                            · rw [hl7] at st12
                              have HOP := Lib.hid (h12.openG st12 rfl (by omega))
                              clear h12 st12 hl7
                              go_wp2_with fail
                              refine HOP.out.mono ?_
                              rintro e w13 ⟨S13, o13, h13, ch13, st13, hz13, hor⟩
                              obtain ⟨da13, -⟩ := hz13 rfl
                              rcases hor with ⟨dx, -⟩ | ⟨-, -, jb13, jv13, rfl, j13⟩
                              · rw [da13] at dx; cases dx
                              have K13 := Lib.hid (K12.out.ch ch13 (by omega))
                              have U13 := Lib.hid (U12.out.ch ch13 (by omega))
                              have HR13 := Lib.hid (recs_any j13 (by omega))
                              have H13 := Lib.hid h13
                              have ST13 := Lib.hid st13
                              have DA13 := Lib.hid da13
                              clear h13 ch13 st13 hz13 da13 j13 HOP K12 U12
                              go_wp2_with fail
                              refine HR13.out.mono ?_
                              rintro e w14 ⟨⟨v14, rfl, b14⟩, g14⟩
                              obtain ⟨A14, c14, rfl⟩ := b14.rd.form
                              have K14 := Lib.hid (K13.out.ext g14)
                              have U14 := Lib.hid (U13.out.ext g14)
                              have H14 := Lib.hid (H13.out.ext g14)
                              have HBG := Lib.hid (begins_any _ _ l' l' w14 b14.rd (Own.rd K14.out.own) (by omega) (by simp) (by simp))
                              have B14 := Lib.hid b14.rd
                              clear b14 g14 HR13 K13 H13 U13
                              go_wp2_with fail
                              refine HBG.out.mono ?_
                              rintro e w15 ⟨rfl, g15⟩
                              have K15 := Lib.hid (K14.out.ext g15)
                              have H15 := Lib.hid (H14.out.ext g15)
                              have U15 := Lib.hid (U14.out.ext g15)
                              have hd9 : decide ((l'.length : Int) + 1 < (l'.length : Int)) = false := by simp only [decide_eq_false_iff_not]; omega
                              have hd8 : decide ((l'.length : Int) + 0 < (l'.length : Int)) = false := by simp only [decide_eq_false_iff_not]; omega
                              clear g15 HBG K14 H14 B14 U14 U15
                              go_wp2
                              go_roundw
                              case rel => exact ⟨t + 1, a' + 1, l', by omega, by go_num, by omega, by go_num, by omega, ⟨_, _, H15.out, ST13.out, DA13.out, K15.out⟩⟩
                              case measure => simp [intOf] <;> omega
                            · rw [hl7] at st12
                              have HOP := Lib.hid (h12.openG st12 rfl (by simp; omega))
                              clear h12 st12 hl7
                              go_wp2_with fail
                              refine HOP.out.mono ?_
                              rintro e w13 ⟨S13, o13, h13, ch13, st13, hz13, hor⟩
                              obtain ⟨da13, -⟩ := hz13 rfl
                              rcases hor with ⟨dx, -⟩ | ⟨-, -, jb13, jv13, rfl, j13⟩
                              · rw [da13] at dx; cases dx
                              have K13 := Lib.hid (K12.out.ch ch13 (by omega))
                              have U13 := Lib.hid (U12.out.ch ch13 (by omega))
                              have HR13 := Lib.hid (recs_any j13 (by simp; omega))
                              have H13 := Lib.hid h13
                              have ST13 := Lib.hid st13
                              have DA13 := Lib.hid da13
                              clear h13 ch13 st13 hz13 da13 j13 HOP K12 U12
                              go_wp2_with fail
                              refine HR13.out.mono ?_
                              rintro e w14 ⟨⟨v14, rfl, b14⟩, g14⟩
                              obtain ⟨A14, c14, rfl⟩ := b14.rd.form
                              have K14 := Lib.hid (K13.out.ext g14)
                              have U14 := Lib.hid (U13.out.ext g14)
                              have H14 := Lib.hid (H13.out.ext g14)
                              have HBG := Lib.hid (begins_any _ _ (l' ++ [⟨xa, xb, xc⟩]) l' w14 b14.rd (Own.rd K14.out.own) (by simp; omega) (by simp) (by simp))
                              have B14 := Lib.hid b14.rd
                              clear b14 g14 HR13 K13 H13 U13
                              have hlen : (l' ++ [(⟨xa, xb, xc⟩ : Rc)]).length = l'.length + 1 := by simp
                              rw [hlen] at HBG ⊢
                              have HLEN := Lib.hid hlen
                              clear hlen
                              go_wp2_with fail
                              refine HBG.out.mono ?_
                              rintro e w15 ⟨rfl, g15⟩
                              have K15 := Lib.hid (K14.out.ext g15)
                              have H15 := Lib.hid (H14.out.ext g15)
                              have U15 := Lib.hid (U14.out.ext g15)
                              obtain ⟨gL, offL, hAL, -, -, hcL⟩ := B14.out.at_
                              obtain rfl := hAL (by simp)
                              obtain ⟨y0, y1, y2⟩ := at3 hcL g15 (k := l'.length) (by simp) (a := xa) (b := xb) (c := xc) (by simp)
                              have z0 : w15.cell? ⟨w6.heap.size, 0, none⟩ = some (.int .u32 xa.toNat) := by
                                obtain ⟨_, _, _, _, _, e, _, _, _, hA, _, hx, _⟩ := U15.out.own
                                cases e
                                cases hA (by omega)
                                exact hx 0 (by omega)
                              have z1 : w15.cell? ⟨w6.heap.size, 1, none⟩ = some (.int .u32 xb.toNat) := by
                                obtain ⟨_, _, _, _, _, e, _, _, _, hA, _, hx, _⟩ := U15.out.own
                                cases e
                                cases hA (by omega)
                                exact hx 1 (by omega)
                              have z2 : w15.cell? ⟨w6.heap.size, 2, none⟩ = some (.int .u32 xc.toNat) := by
                                obtain ⟨_, _, _, _, _, e, _, _, _, hA, _, hx, _⟩ := U15.out.own
                                cases e
                                cases hA (by omega)
                                exact hx 2 (by omega)
                              have hne := run_neqR ⟨xa, xb, xc⟩ ⟨xa, xb, xc⟩
                              have heq : rcEq ⟨xa, xb, xc⟩ ⟨xa, xb, xc⟩ = true := (rcEq_iff ⟨xa, xb, xc⟩ ⟨xa, xb, xc⟩).2 rfl
                              rw [heq] at hne
                              simp only [Rc.cells] at hne
                              have HZ15 := Lib.hid H15.out.gr.size
                              clear heq hcL hAL g15 HBG K14 H14 B14 U14 U15 HLEN
                              go_wp2_with fail
                              go_quiet (fail)
                              clear hne
                              have HOWN9 : Hid (OwnR (w15.drewN nq) w.heap.size (.slice As5 l'.length cs5) l') := (K15.out.ext (gr_drewN _ _ none)).own
                              have HZZ9 : Hid (w.heap.size ≤ (w15.drewN nq).heap.size) := HZ15.out
                              go_wp2_with (at_builtin; refine wp_app1RK ⟨xa, xb, xc⟩ _ rfl rfl (.tmp 204) (.tmp 208) rfl rfl HOWN9.out _ rfl rfl (by omega) HZZ9.out ?_; intro v18 w18 o18 e18)
                              have HT18 : Hid (Turn w d v18 (l' ++ [⟨xa, xb, xc⟩]) w18) := by
                                have k1 := (H15.out.ext (gr_drewN w15 nq none)).ext (gr_alloc (w15.drewN nq) (.cells #[.int .u32 xa.toNat, .int .u32 xb.toNat, .int .u32 xc.toNat] 58) none)
                                have k2 := (K15.out.ext (gr_drewN w15 nq none)).ext (gr_alloc (w15.drewN nq) (.cells #[.int .u32 xa.toNat, .int .u32 xb.toNat, .int .u32 xc.toNat] 58) none)
                                exact ⟨_, _, k1.grown k2 e18, ST13.out, DA13.out, Kp.grown k1 k2 e18 o18⟩
                              clear o18 e18 H15 K15
                              go_roundw
                              case rel => exact ⟨t + 1, a' + 1, _, by omega, by go_num, by omega, by go_num, by simp; omega, HT18⟩
                              case measure => simp [intOf] <;> omega
                · obtain rfl : a' = R.length := by omega
                  have HDD := Lib.hid HD5.out.dead
                  rw [DE5.out] at HDD
                  have HA5 := Lib.hid (HD5.out.arm (1 : Nat) (by omega))
                  have e5 : S5.arm (1 : Nat) = ({ S5 with armed := 1 }, 0) := by unfold Dk.arm; rw [if_neg (by omega), if_neg (by rw [DE5.out]; simp)]; rfl
                  rw [e5] at HA5
                  clear e5
                  go_wp2_with fail
                  refine HDD.out.mono ?_
                  rintro e w6 ⟨rfl, rfl⟩
                  clear HDD
                  go_wp2_with fail
                  refine HA5.out.mono ?_
                  rintro e w7 ⟨rfl, o7, h7, ch7⟩
                  have HS7 := Lib.hid (h7.sync jn (by simp))
                  rw [sync_off] at HS7
                  have K7 := Lib.hid (K5.out.unjo.ch ch7 (by omega))
                  clear h7 ch7 HA5
                  go_wp2_with fail
                  refine HS7.out.mono ?_
                  rintro e w8 ⟨rfl, o8, h8, ch8⟩
                  have K4 := Lib.hid (K7.out.ch ch8 (by omega))
                  obtain ⟨S4, hS4⟩ : ∃ S4, S4 = S5.off := ⟨_, rfl⟩
                  have ST4 : Hid (St S4 l' [] 5000) := by show St _ _ _ _; rw [hS4]; have h9 := ST5.out.same (S' := S5.off) rfl rfl rfl rfl; exact h9.mono (by omega)
                  have DE4 : Hid (S4.dead = true) := by show _ = _; rw [hS4]; rfl
                  have HD4 : Hid (DA w d o8 S4 w8) := by show DA _ _ _ _ _; rw [hS4]; exact h8
                  clear h8 ch8 HS7 K7 hS4 HD5 ST5 DE5 F5 J5 K5
                  as_aux_lemma =>
                    by_cases tk : t < KK.length
                    · have := HAK.out (by omega)
                      subst this
                      obtain ⟨Ak, ck, hck, hkr⟩ := HCK.out t tk
                      have hm100 := HK100.out t tk
                      obtain ⟨m, hm⟩ : ∃ m, m = KK.getD t [] := ⟨_, rfl⟩
                      rw [← hm] at hck hkr hm100
                      have hck4 := HD4.out.gr.cell hck (by simp)
                      have HKV : Hid (∀ wx, w.grownBy wx none → RdI wx (.slice Ak m.length ck) m) := fun wx hx => hkr.ext hx
                      clear hm hck hkr
                      go_wp2_with (at_builtin; refine wp_appI (m := m) (l := []) rfl (.tmp 162) (.tmp 163) rfl rfl (own_emptyI _ _ (Nat.le_refl _)) rfl (HKV.out _ (gr_none HD4.out.gr (gr_alloc _ _ none))) (by simp; omega) (by simp) ?_; rintro v11 w11 o11 g11 -)
                      rw [List.nil_append] at o11
                      have g12 : World.grownBy w8 w11 none := gr_trans (gr_alloc _ _ _) g11 (.inr (fun g e => by cases e; exact Nat.le_refl _))
                      have HD11 := Lib.hid (HD4.out.ext g12)
                      have K11 := Lib.hid (K4.out.ext g12)
                      have HON := Lib.hid (HD11.out.on ST4.out.looseIn (by have := ST4.out.nl; omega) (by have := ST4.out.few; omega) DE4.out (keep := m) (Own.rd o11) (by first | omega | simp))
                      clear o11 g11 g12 HKV HD4 K4 hck4 
                      go_wp2_with fail
                      refine HON.out.mono ?_
                      rintro e w12 ⟨rfl, ls, hls, o12, h12, ch12⟩
                      obtain ⟨l6, hl6, st12⟩ := ST4.out.lit (keep := m) hls (by have := ST4.out.x1; rw [List.length_append]; omega)
                      have K12 := Lib.hid (K11.out.ch ch12 (by omega))
                      clear hls ch12 HON HD11 K11 ST4 DE4 
                      have hl7 : l6 = l' := by
                        rcases hl6 with h | h
                        · exact h
                        · simpa using h
                      clear hl6
                      rw [hl7] at st12
                      have HOP := Lib.hid (h12.openG st12 rfl (by omega))
                      clear h12 st12 hl7
                      go_wp2_with fail
                      refine HOP.out.mono ?_
                      rintro e w13 ⟨S13, o13, h13, ch13, st13, hz13, hor⟩
                      obtain ⟨da13, -⟩ := hz13 rfl
                      rcases hor with ⟨dx, -⟩ | ⟨-, -, jb13, jv13, rfl, j13⟩
                      · rw [da13] at dx; cases dx
                      have K13 := Lib.hid (K12.out.ch ch13 (by omega))
                      have HR13 := Lib.hid (recs_any j13 (by omega))
                      have H13 := Lib.hid h13
                      have ST13 := Lib.hid st13
                      have DA13 := Lib.hid da13
                      clear h13 ch13 st13 hz13 da13 j13 HOP K12 
                      go_wp2_with fail
                      refine HR13.out.mono ?_
                      rintro e w14 ⟨⟨v14, rfl, b14⟩, g14⟩
                      obtain ⟨A14, c14, rfl⟩ := b14.rd.form
                      have K14 := Lib.hid (K13.out.ext g14)
                      have H14 := Lib.hid (H13.out.ext g14)
                      have HBG := Lib.hid (begins_any _ _ l' l' w14 b14.rd (Own.rd K14.out.own) (by omega) (by simp) (by simp))
                      have B14 := Lib.hid b14.rd
                      clear b14 g14 HR13 K13 H13 
                      go_wp2_with fail
                      refine HBG.out.mono ?_
                      rintro e w15 ⟨rfl, g15⟩
                      have K15 := Lib.hid (K14.out.ext g15)
                      have H15 := Lib.hid (H14.out.ext g15)
                      have hd9 : decide ((l'.length : Int) + 1 < (l'.length : Int)) = false := by simp only [decide_eq_false_iff_not]; omega
                      have hd8 : decide ((l'.length : Int) + 0 < (l'.length : Int)) = false := by simp only [decide_eq_false_iff_not]; omega
                      clear g15 HBG K14 H14 B14 
                      go_wp2
                      go_roundw
                      case rel => exact ⟨t + 1, R.length, l', by omega, by go_num, by omega, by go_num, by omega, ⟨_, _, H15.out, ST13.out, DA13.out, K15.out⟩⟩
                      case measure => simp [intOf] <;> omega
                    · have HKV : Hid (∀ wx, w.grownBy wx none → RdI wx (.slice none 0 0) []) := fun wx hx => Rd.nil _ _
                      have htk : (KK.length : Int) ≤ (t : Nat) := by omega
                      clear tk
                      go_wp2_with (at_builtin; refine wp_appI (m := []) (l := []) rfl (.tmp 162) (.tmp 163) rfl rfl (own_emptyI _ _ (Nat.le_refl _)) rfl (HKV.out _ (gr_none HD4.out.gr (gr_alloc _ _ none))) (by simp) (by simp) ?_; rintro v11 w11 o11 g11 -)
                      rw [List.nil_append] at o11
                      have g12 : World.grownBy w8 w11 none := gr_trans (gr_alloc _ _ _) g11 (.inr (fun g e => by cases e; exact Nat.le_refl _))
                      have HD11 := Lib.hid (HD4.out.ext g12)
                      have K11 := Lib.hid (K4.out.ext g12)
                      have HON := Lib.hid (HD11.out.on ST4.out.looseIn (by have := ST4.out.nl; omega) (by have := ST4.out.few; omega) DE4.out (keep := []) (Own.rd o11) (by first | omega | simp))
                      clear o11 g11 g12 HKV HD4 K4 
                      go_wp2_with fail
                      refine HON.out.mono ?_
                      rintro e w12 ⟨rfl, ls, hls, o12, h12, ch12⟩
                      obtain ⟨l6, hl6, st12⟩ := ST4.out.lit (keep := []) hls (by have := ST4.out.x1; rw [List.length_append]; omega)
                      have K12 := Lib.hid (K11.out.ch ch12 (by omega))
                      clear hls ch12 HON HD11 K11 ST4 DE4 
                      have hl7 : l6 = l' := by
                        rcases hl6 with h | h
                        · exact h
                        · simpa using h
                      clear hl6
                      rw [hl7] at st12
                      have HOP := Lib.hid (h12.openG st12 rfl (by omega))
                      clear h12 st12 hl7
                      go_wp2_with fail
                      refine HOP.out.mono ?_
                      rintro e w13 ⟨S13, o13, h13, ch13, st13, hz13, hor⟩
                      obtain ⟨da13, -⟩ := hz13 rfl
                      rcases hor with ⟨dx, -⟩ | ⟨-, -, jb13, jv13, rfl, j13⟩
                      · rw [da13] at dx; cases dx
                      have K13 := Lib.hid (K12.out.ch ch13 (by omega))
                      have HR13 := Lib.hid (recs_any j13 (by omega))
                      have H13 := Lib.hid h13
                      have ST13 := Lib.hid st13
                      have DA13 := Lib.hid da13
                      clear h13 ch13 st13 hz13 da13 j13 HOP K12 
                      go_wp2_with fail
                      refine HR13.out.mono ?_
                      rintro e w14 ⟨⟨v14, rfl, b14⟩, g14⟩
                      obtain ⟨A14, c14, rfl⟩ := b14.rd.form
                      have K14 := Lib.hid (K13.out.ext g14)
                      have H14 := Lib.hid (H13.out.ext g14)
                      have HBG := Lib.hid (begins_any _ _ l' l' w14 b14.rd (Own.rd K14.out.own) (by omega) (by simp) (by simp))
                      have B14 := Lib.hid b14.rd
                      clear b14 g14 HR13 K13 H13 
                      go_wp2_with fail
                      refine HBG.out.mono ?_
                      rintro e w15 ⟨rfl, g15⟩
                      have K15 := Lib.hid (K14.out.ext g15)
                      have H15 := Lib.hid (H14.out.ext g15)
                      have hd9 : decide ((l'.length : Int) + 1 < (l'.length : Int)) = false := by simp only [decide_eq_false_iff_not]; omega
                      have hd8 : decide ((l'.length : Int) + 0 < (l'.length : Int)) = false := by simp only [decide_eq_false_iff_not]; omega
                      clear g15 HBG K14 H14 B14 
                      go_wp2
                      go_roundw
                      case rel => exact ⟨t + 1, R.length, l', by omega, by go_num, by omega, by go_num, by omega, ⟨_, _, H15.out, ST13.out, DA13.out, K15.out⟩⟩
                      case measure => simp [intOf] <;> omega
        · by_cases hte : t = F.length
          · subst hte
            have HARM : Hid (Calls Try.prog 24 #[.pointer (some ⟨d, 0, none⟩), .int .i64 0] wr fun e w' => e = .returned (.int .i64 0) ∧ ∃ S1 o1, DA w d o1 S1 w' ∧ Ch o wr o1 w' ∧ St S1 l [] 0 ∧ S1.dead = false) := by
              refine (HD.out.arm 0 (by omega)).mono ?_
              have e : S.arm 0 = ({ S with armed := (0 : Int).toNat }, 0) := by unfold Dk.arm; rw [if_neg (by omega), if_neg (by rw [HDE.out]; simp)]
              rw [e]
              rintro e w' ⟨rfl, o1, h1, h2⟩
              exact ⟨rfl, _, o1, h1, h2, HST.out.same rfl rfl rfl rfl, HDE.out⟩
            go_wp2_with fail
            refine HARM.out.mono ?_
            rintro e w2 ⟨rfl, S1, o1, h2, ch2, st2, dd2⟩
            as_aux_lemma =>
              have K2 := Lib.hid (HKP.out.ch ch2 (by omega))
              have HZ2 := Lib.hid h2.gr.size
              have HOP := Lib.hid (h2.openG st2 dd2 (by omega))
              clear h2 ch2 st2 dd2 HARM HD HST HDE HKP
              go_wp2_with fail
              refine HOP.out.mono ?_
              rintro e w3 ⟨S3, o3, h3, ch3, st3, -, hor⟩
              rcases hor with ⟨d3, rfl⟩ | ⟨d3, f3, jb, jv, rfl, j3⟩
              · have HD4 := Lib.hid h3
                have ST4 := Lib.hid (st3.mono (b' := 5000) (by omega))
                have DE4 := Lib.hid d3
                have K4 := Lib.hid (K2.out.ch ch3 (by omega))
                have HDD := Lib.hid h3.dead
                rw [d3] at HDD
                clear h3 st3 d3 ch3 K2 HOP
                go_wp2_with fail
                refine HDD.out.mono ?_
                rintro e w4 ⟨rfl, rfl⟩
                clear HDD
                as_aux_lemma =>
                  by_cases tk : F.length < KK.length
                  · have := HAK.out (by omega)
                    subst this
                    obtain ⟨Ak, ck, hck, hkr⟩ := HCK.out F.length tk
                    have hm100 := HK100.out F.length tk
                    obtain ⟨m, hm⟩ : ∃ m, m = KK.getD F.length [] := ⟨_, rfl⟩
                    rw [← hm] at hck hkr hm100
                    have hck4 := HD4.out.gr.cell hck (by simp)
                    have HKV : Hid (∀ wx, w.grownBy wx none → RdI wx (.slice Ak m.length ck) m) := fun wx hx => hkr.ext hx
                    clear hm hck hkr
                    go_wp2_with (at_builtin; refine wp_appI (m := m) (l := []) rfl (.tmp 162) (.tmp 163) rfl rfl (own_emptyI _ _ (Nat.le_refl _)) rfl (HKV.out _ (gr_none HD4.out.gr (gr_alloc _ _ none))) (by simp; omega) (by simp) ?_; rintro v11 w11 o11 g11 -)
                    rw [List.nil_append] at o11
                    have g12 : World.grownBy w3 w11 none := gr_trans (gr_alloc _ _ _) g11 (.inr (fun g e => by cases e; exact Nat.le_refl _))
                    have HD11 := Lib.hid (HD4.out.ext g12)
                    have K11 := Lib.hid (K4.out.ext g12)
                    have HON := Lib.hid (HD11.out.on ST4.out.looseIn (by have := ST4.out.nl; omega) (by have := ST4.out.few; omega) DE4.out (keep := m) (Own.rd o11) (by first | omega | simp))
                    clear o11 g11 g12 HKV HD4 K4 hck4 
                    go_wp2_with fail
                    refine HON.out.mono ?_
                    rintro e w12 ⟨rfl, ls, hls, o12, h12, ch12⟩
                    obtain ⟨l6, hl6, st12⟩ := ST4.out.lit (keep := m) hls (by have := ST4.out.x1; rw [List.length_append]; omega)
                    have K12 := Lib.hid (K11.out.ch ch12 (by omega))
                    clear hls ch12 HON HD11 K11 ST4 DE4 
                    have hl7 : l6 = l := by
                      rcases hl6 with h | h
                      · exact h
                      · simpa using h
                    clear hl6
                    rw [hl7] at st12
                    have HOP := Lib.hid (h12.openG st12 rfl (by omega))
                    clear h12 st12 hl7
                    go_wp2_with fail
                    refine HOP.out.mono ?_
                    rintro e w13 ⟨S13, o13, h13, ch13, st13, hz13, hor⟩
                    obtain ⟨da13, -⟩ := hz13 rfl
                    rcases hor with ⟨dx, -⟩ | ⟨-, -, jb13, jv13, rfl, j13⟩
                    · rw [da13] at dx; cases dx
                    have K13 := Lib.hid (K12.out.ch ch13 (by omega))
                    have HR13 := Lib.hid (recs_any j13 (by omega))
                    have H13 := Lib.hid h13
                    have ST13 := Lib.hid st13
                    have DA13 := Lib.hid da13
                    clear h13 ch13 st13 hz13 da13 j13 HOP K12 
                    go_wp2_with fail
                    refine HR13.out.mono ?_
                    rintro e w14 ⟨⟨v14, rfl, b14⟩, g14⟩
                    obtain ⟨A14, c14, rfl⟩ := b14.rd.form
                    have K14 := Lib.hid (K13.out.ext g14)
                    have H14 := Lib.hid (H13.out.ext g14)
                    have HBG := Lib.hid (begins_any _ _ l l w14 b14.rd (Own.rd K14.out.own) (by omega) (by simp) (by simp))
                    have B14 := Lib.hid b14.rd
                    clear b14 g14 HR13 K13 H13 
                    go_wp2_with fail
                    refine HBG.out.mono ?_
                    rintro e w15 ⟨rfl, g15⟩
                    have K15 := Lib.hid (K14.out.ext g15)
                    have H15 := Lib.hid (H14.out.ext g15)
                    have hd9 : decide ((l.length : Int) + 1 < (l.length : Int)) = false := by simp only [decide_eq_false_iff_not]; omega
                    have hd8 : decide ((l.length : Int) + 0 < (l.length : Int)) = false := by simp only [decide_eq_false_iff_not]; omega
                    clear g15 HBG K14 H14 B14 
                    go_wp2
                    go_roundw
                    case rel => exact ⟨F.length + 1, a, l, by omega, by go_num, by omega, by go_num, by omega, ⟨_, _, H15.out, ST13.out, DA13.out, K15.out⟩⟩
                    case measure => simp [intOf] <;> omega
                  · have HKV : Hid (∀ wx, w.grownBy wx none → RdI wx (.slice none 0 0) []) := fun wx hx => Rd.nil _ _
                    have htk : (KK.length : Int) ≤ (F.length : Nat) := by omega
                    clear tk
                    go_wp2_with (at_builtin; refine wp_appI (m := []) (l := []) rfl (.tmp 162) (.tmp 163) rfl rfl (own_emptyI _ _ (Nat.le_refl _)) rfl (HKV.out _ (gr_none HD4.out.gr (gr_alloc _ _ none))) (by simp) (by simp) ?_; rintro v11 w11 o11 g11 -)
                    rw [List.nil_append] at o11
                    have g12 : World.grownBy w3 w11 none := gr_trans (gr_alloc _ _ _) g11 (.inr (fun g e => by cases e; exact Nat.le_refl _))
                    have HD11 := Lib.hid (HD4.out.ext g12)
                    have K11 := Lib.hid (K4.out.ext g12)
                    have HON := Lib.hid (HD11.out.on ST4.out.looseIn (by have := ST4.out.nl; omega) (by have := ST4.out.few; omega) DE4.out (keep := []) (Own.rd o11) (by first | omega | simp))
                    clear o11 g11 g12 HKV HD4 K4 
                    go_wp2_with fail
                    refine HON.out.mono ?_
                    rintro e w12 ⟨rfl, ls, hls, o12, h12, ch12⟩
                    obtain ⟨l6, hl6, st12⟩ := ST4.out.lit (keep := []) hls (by have := ST4.out.x1; rw [List.length_append]; omega)
                    have K12 := Lib.hid (K11.out.ch ch12 (by omega))
                    clear hls ch12 HON HD11 K11 ST4 DE4 
                    have hl7 : l6 = l := by
                      rcases hl6 with h | h
                      · exact h
                      · simpa using h
                    clear hl6
                    rw [hl7] at st12
                    have HOP := Lib.hid (h12.openG st12 rfl (by omega))
                    clear h12 st12 hl7
                    go_wp2_with fail
                    refine HOP.out.mono ?_
                    rintro e w13 ⟨S13, o13, h13, ch13, st13, hz13, hor⟩
                    obtain ⟨da13, -⟩ := hz13 rfl
                    rcases hor with ⟨dx, -⟩ | ⟨-, -, jb13, jv13, rfl, j13⟩
                    · rw [da13] at dx; cases dx
                    have K13 := Lib.hid (K12.out.ch ch13 (by omega))
                    have HR13 := Lib.hid (recs_any j13 (by omega))
                    have H13 := Lib.hid h13
                    have ST13 := Lib.hid st13
                    have DA13 := Lib.hid da13
                    clear h13 ch13 st13 hz13 da13 j13 HOP K12 
                    go_wp2_with fail
                    refine HR13.out.mono ?_
                    rintro e w14 ⟨⟨v14, rfl, b14⟩, g14⟩
                    obtain ⟨A14, c14, rfl⟩ := b14.rd.form
                    have K14 := Lib.hid (K13.out.ext g14)
                    have H14 := Lib.hid (H13.out.ext g14)
                    have HBG := Lib.hid (begins_any _ _ l l w14 b14.rd (Own.rd K14.out.own) (by omega) (by simp) (by simp))
                    have B14 := Lib.hid b14.rd
                    clear b14 g14 HR13 K13 H13 
                    go_wp2_with fail
                    refine HBG.out.mono ?_
                    rintro e w15 ⟨rfl, g15⟩
                    have K15 := Lib.hid (K14.out.ext g15)
                    have H15 := Lib.hid (H14.out.ext g15)
                    have hd9 : decide ((l.length : Int) + 1 < (l.length : Int)) = false := by simp only [decide_eq_false_iff_not]; omega
                    have hd8 : decide ((l.length : Int) + 0 < (l.length : Int)) = false := by simp only [decide_eq_false_iff_not]; omega
                    clear g15 HBG K14 H14 B14 
                    go_wp2
                    go_roundw
                    case rel => exact ⟨F.length + 1, a, l, by omega, by go_num, by omega, by go_num, by omega, ⟨_, _, H15.out, ST13.out, DA13.out, K15.out⟩⟩
                    case measure => simp [intOf] <;> omega
              · have HADDS : Hid (Adds w d jb (.slice As l.length cs) l (64 * a) w3) := ⟨o3, S3, jv, h3, st3.mono (by omega), d3, f3, j3.mono HZ2.out, K2.out.opened ch3 j3⟩
                have HR3 := Lib.hid (recs_any j3 (by omega))
                have G3 := Lib.hid h3.gr
                clear h3 ch3 st3 d3 f3 j3 K2 HOP
                go_wp2_with fail
                refine HR3.out.mono ?_
                rintro e w4 ⟨⟨v4, rfl, b4⟩, g4⟩
                obtain ⟨A4, c4, rfl⟩ := b4.rd.form
                have HADDS4 : Hid (Adds w d jb (.slice As l.length cs) l (64 * a) w4) := HADDS.out.ext g4
                have hbg := begins_any (.slice A4 l.length c4) (.slice As l.length cs) l l w4 b4.rd (by obtain ⟨o, S, v, -, -, -, -, -, k⟩ := HADDS4.out.ex; exact Own.rd k.own) (by omega) (Nat.le_refl _) (List.take_length)
                have HBG := Lib.hid hbg
                clear hbg b4 g4 HADDS HR3
                go_wp2_with fail
                refine HBG.out.mono ?_
                rintro e w5 ⟨rfl, g5⟩
                have HADDS5 : Hid (Adds w d jb (.slice As l.length cs) l (64 * a) w5) := HADDS4.out.ext g5
                clear g5 HBG HADDS4
                go_wp2
                go_loopw [10, 11, 13, 17, 18] (fun sv at_ un _ _ wr => ∃ (a' : Nat) (l' : List Rc), un = .slice none 0 0 ∧ a' ≤ R.length ∧ at_ = .int .i64 a' ∧ l'.length ≤ a' ∧ Hid (Adds w d jb sv l' (64 * a') wr)) (fun _ at_ _ _ _ _ => R.length - (intOf at_).toNat)
                case atStart => exact ⟨a, l, rfl, by omega, rfl, by omega, HADDS5⟩
                case round =>
                  obtain ⟨a', l', rfl, ha', rfl, hla', hadds⟩ := hrel
                  obtain ⟨o5, S5, jv5, hd5, st5, de5, f5, j5, k5⟩ := hadds.out.ex
                  obtain ⟨As5, cs5, rfl⟩ := RdR.form (Own.rd k5.own)
                  have HD5 := Lib.hid hd5
                  have ST5 := Lib.hid st5
                  have DE5 := Lib.hid de5
                  have F5 := Lib.hid f5
                  have J5 := Lib.hid j5
                  have K5 := Lib.hid k5
                  clear hd5 st5 de5 f5 j5 k5 hadds HADDS5
                  by_cases hlt : a' < R.length
                  · as_aux_lemma =>
                      have := HAR.out (by omega)
                      subst this
                      rcases hx : R[a'] with ⟨xa, xb, xc⟩
                      obtain ⟨q0, q1, q2⟩ := at3 HCR.out HD5.out.gr hlt hx
                      clear hx
                      by_cases h0 : xa = 0
                      · subst h0
                        have HZ : Hid (∀ wx : World, Calls Try.prog 33 #[.pointer (some ⟨jb, 0, none⟩), .agg #[.int .u32 0, .int .u32 xb.toNat, .int .u32 xc.toNat]] wx fun e w' => e = .returned (.int .i64 1) ∧ wx.grownBy w' none) := fun wx => add_zero ⟨0, xb, xc⟩ rfl
                        have HAX : Hid (∀ wx, wr.grownBy wx none → Adds w d jb (.slice As5 l'.length cs5) l' (64 * (a' + 1)) wx) := fun wx hx => ⟨_, _, _, HD5.out.ext hx, ST5.out.mono (by omega), DE5.out, F5.out, J5.out.ch (Ch.ext hx), K5.out.ext hx⟩
                        have HBX := Lib.hid (Blk.new wr 58 #[.int .u32 0, .int .u32 xb.toNat, .int .u32 xc.toNat])
                        clear HD5 ST5 DE5 F5 J5 K5
                        go_wp2_with fail
                        refine (HZ.out _).mono ?_
                        rintro e w6 ⟨rfl, g6⟩
                        have b6 : w6.cell? ⟨wr.heap.size, 0, none⟩ = some (.int .u32 0) := (HBX.out.ext g6).cell 0
                        have HA6 := Lib.hid (HAX.out _ (gr_none (gr_alloc wr _ none) g6))
                        clear g6 HZ HAX HBX
                        go_wp2
                        go_roundw
                        case rel => exact ⟨a' + 1, l', rfl, by omega, by go_num, by omega, HA6⟩
                        case measure => simp [intOf] <;> omega
                      · have hk0 : ((xa.toNat : Int) == 0) = false := by
                          rw [beq_eq_false_iff_ne]
                          intro e
                          exact h0 (UInt32.toNat_inj.1 (by simpa using e))
                        have HAG : Hid (∀ wx, wr.grownBy wx none → Calls Try.prog 33 #[.pointer (some ⟨jb, 0, none⟩), .agg #[.int .u32 xa.toNat, .int .u32 xb.toNat, .int .u32 xc.toNat]] wx (AddA w d o5 jb jv5 l' ⟨xa, xb, xc⟩ (64 * a') wx)) := fun wx hx =>
                          (HD5.out.ext hx).addG (J5.out.ch (Ch.ext hx)) ST5.out F5.out (by omega) (by omega) ⟨xa, xb, xc⟩ h0
                        have HBX := Lib.hid (Blk.new wr 58 #[.int .u32 xa.toNat, .int .u32 xb.toNat, .int .u32 xc.toNat])
                        have hjf : Hid (jo o5 jb jv5 wr.heap.size = none) := jo_fresh HD5.out J5.out (Nat.le_refl _)
                        have hzw := HD5.out.gr.size
                        clear h0
                        go_wp2_with fail
                        refine (HAG.out _ (gr_alloc _ _ none)).mono ?_
                        rintro e w6 ⟨S6, o6, jv6, lx, h6, j6, ch6, hor⟩
                        have K6 := Lib.hid ((K5.out.ext (gr_alloc _ _ none)).ch ch6 (by omega))
                        have bx6 := ch6.blk HBX.out hjf.out
                        have b0 : w6.cell? ⟨wr.heap.size, 0, none⟩ = some (.int .u32 xa.toNat) := bx6.cell 0
                        have b1 : w6.cell? ⟨wr.heap.size, 1, none⟩ = some (.int .u32 xb.toNat) := bx6.cell 1
                        have b2 : w6.cell? ⟨wr.heap.size, 2, none⟩ = some (.int .u32 xc.toNat) := bx6.cell 2
                        have HZ6 := Lib.hid h6.gr.size
                        have H6 := Lib.hid h6
                        have J6 := Lib.hid j6
                        clear h6 j6 ch6 bx6 HAG HBX hjf HD5 ST5 DE5 F5 J5 K5
                        rcases hor with ⟨rfl, d6, f6, st6, rfl⟩ | ⟨rfl, d6, x, hx6, st6⟩
                        · have D6 := Lib.hid d6
                          have F6 := Lib.hid f6
                          have ST6 := Lib.hid st6
                          clear d6 f6 st6
                          go_wp2_with (at_builtin; refine wp_app1RK (w := w6) ⟨xa, xb, xc⟩ _ rfl rfl (.tmp 136) (.tmp 138) rfl rfl K6.out.own _ rfl rfl (by omega) HZ6.out ?_; intro v8 w8 o8 e8)
                          have HA8 : Hid (Adds w d jb v8 (l' ++ [⟨xa, xb, xc⟩]) (64 * (a' + 1)) w8) := by
                            have k1 := H6.out.ext (gr_alloc w6 (.cells #[.int .u32 xa.toNat, .int .u32 xb.toNat, .int .u32 xc.toNat] 58) none)
                            have k2 := J6.out.ch (Ch.ext (gr_alloc w6 (.cells #[.int .u32 xa.toNat, .int .u32 xb.toNat, .int .u32 xc.toNat] 58) none))
                            have k3 := K6.out.ext (gr_alloc w6 (.cells #[.int .u32 xa.toNat, .int .u32 xb.toNat, .int .u32 xc.toNat] 58) none)
                            exact ⟨_, _, _, k1.grown k3.unjo e8, ST6.out.mono (by omega), D6.out, F6.out, k2.grown k3 e8, Kp.grownJ k1 k2 k3 e8 o8⟩
                          clear o8 e8 H6 J6 K6 ST6 F6 D6
                          go_roundw
                          case rel => exact ⟨a' + 1, _, rfl, by omega, by go_num, by simp; omega, HA8⟩
                          case measure => simp [intOf] <;> omega
                        · have HD6 := Lib.hid (H6.out.ext (gr_alloc w6 (.cells #[.int .u32 xa.toNat, .int .u32 xb.toNat, .int .u32 xc.toNat] 58) none))
                          have HDD := Lib.hid HD6.out.dead
                          rw [d6] at HDD
                          have DE4 := Lib.hid d6
                          have ST4 := Lib.hid (st6.mono (b' := 5000) (by omega))
                          have HX := Lib.hid hx6
                          have K4 := Lib.hid (K6.out.unjo.ext (gr_alloc w6 (.cells #[.int .u32 xa.toNat, .int .u32 xb.toNat, .int .u32 xc.toNat] 58) none))
                          have U4 : Hid (Kp o6 (w6.alloc (.cells #[.int .u32 xa.toNat, .int .u32 xb.toNat, .int .u32 xc.toNat] 58)) w.heap.size 3 (.slice (some ⟨w6.heap.size, 0, none⟩) 1 1) 1 (rcL [⟨xa, xb, xc⟩])) := ⟨own_lit w6 w.heap.size 3 1 1 #[.int .u32 xa.toNat, .int .u32 xb.toNat, .int .u32 xc.toNat] 58 (0, 0) (.inr (by simp)) rfl (Nat.le_refl _) (by unfold maxLen; omega) HZ6.out, fun k e => by
                            have : k = w6.heap.size := by simpa [blk] using e.symm
                            rw [this]; exact H6.out.fresh (Nat.le_refl _)⟩
                          clear d6 st6 hx6 H6 J6 K6
                          go_wp2_with fail
                          refine HDD.out.mono ?_
                          rintro e w7 ⟨rfl, rfl⟩
                          clear HDD
                          have HD4 := HD6
                          clear HD6
                          obtain ⟨W7, hW7⟩ : ∃ W7, W7 = w6.alloc (.cells #[.int .u32 xa.toNat, .int .u32 xb.toNat, .int .u32 xc.toNat] 58) := ⟨_, rfl⟩
                          rw [← hW7] at HD4 K4 U4 ⊢
                          clear hW7
                          as_aux_lemma =>
                            by_cases tk : F.length < KK.length
                            · have := HAK.out (by omega)
                              subst this
                              obtain ⟨Ak, ck, hck, hkr⟩ := HCK.out F.length tk
                              have hm100 := HK100.out F.length tk
                              obtain ⟨m, hm⟩ : ∃ m, m = KK.getD F.length [] := ⟨_, rfl⟩
                              rw [← hm] at hck hkr hm100
                              have hck4 := HD4.out.gr.cell hck (by simp)
                              have HKV : Hid (∀ wx, w.grownBy wx none → RdI wx (.slice Ak m.length ck) m) := fun wx hx => hkr.ext hx
                              clear hm hck hkr
                              go_wp2_with (at_builtin; refine wp_appI (m := m) (l := []) rfl (.tmp 162) (.tmp 163) rfl rfl (own_emptyI _ _ (Nat.le_refl _)) rfl (HKV.out _ (gr_none HD4.out.gr (gr_alloc _ _ none))) (by simp; omega) (by simp) ?_; rintro v11 w11 o11 g11 -)
                              rw [List.nil_append] at o11
                              have g12 : World.grownBy W7 w11 none := gr_trans (gr_alloc _ _ _) g11 (.inr (fun g e => by cases e; exact Nat.le_refl _))
                              have HD11 := Lib.hid (HD4.out.ext g12)
                              have K11 := Lib.hid (K4.out.ext g12)
                              have U11 := Lib.hid (U4.out.ext g12)
                              have HON := Lib.hid (HD11.out.on ST4.out.looseIn (by have := ST4.out.nl; omega) (by have := ST4.out.few; omega) DE4.out (keep := m) (Own.rd o11) (by first | omega | simp))
                              clear o11 g11 g12 HKV HD4 K4 hck4 
                              go_wp2_with fail
                              refine HON.out.mono ?_
                              rintro e w12 ⟨rfl, ls, hls, o12, h12, ch12⟩
                              obtain ⟨l6, hl6, st12⟩ := ST4.out.lit (keep := m) hls (by have := ST4.out.x1; rw [List.length_append]; omega)
                              have K12 := Lib.hid (K11.out.ch ch12 (by omega))
                              have U12 := Lib.hid (U11.out.ch ch12 (by omega))
                              clear hls ch12 HON HD11 K11 ST4 DE4 U11
                              have hl7 : l6 = l' ∨ l6 = l' ++ [⟨xa, xb, xc⟩] := by
                                rcases hl6 with h | h
                                · exact .inl h
                                · rcases HX.out with e | e
                                  · rw [e, List.append_nil] at h; exact .inl h
                                  · rw [e] at h; exact .inr h
                              clear hl6 HX
                              rcases hl7 with hl7 | hl7
                              · rw [hl7] at st12
                                have HOP := Lib.hid (h12.openG st12 rfl (by omega))
                                clear h12 st12 hl7
                                go_wp2_with fail
                                refine HOP.out.mono ?_
                                rintro e w13 ⟨S13, o13, h13, ch13, st13, hz13, hor⟩
                                obtain ⟨da13, -⟩ := hz13 rfl
                                rcases hor with ⟨dx, -⟩ | ⟨-, -, jb13, jv13, rfl, j13⟩
                                · rw [da13] at dx; cases dx
                                have K13 := Lib.hid (K12.out.ch ch13 (by omega))
                                have U13 := Lib.hid (U12.out.ch ch13 (by omega))
                                have HR13 := Lib.hid (recs_any j13 (by omega))
                                have H13 := Lib.hid h13
                                have ST13 := Lib.hid st13
                                have DA13 := Lib.hid da13
                                clear h13 ch13 st13 hz13 da13 j13 HOP K12 U12
                                go_wp2_with fail
                                refine HR13.out.mono ?_
                                rintro e w14 ⟨⟨v14, rfl, b14⟩, g14⟩
                                obtain ⟨A14, c14, rfl⟩ := b14.rd.form
                                have K14 := Lib.hid (K13.out.ext g14)
                                have U14 := Lib.hid (U13.out.ext g14)
                                have H14 := Lib.hid (H13.out.ext g14)
                                have HBG := Lib.hid (begins_any _ _ l' l' w14 b14.rd (Own.rd K14.out.own) (by omega) (by simp) (by simp))
                                have B14 := Lib.hid b14.rd
                                clear b14 g14 HR13 K13 H13 U13
                                go_wp2_with fail
                                refine HBG.out.mono ?_
                                rintro e w15 ⟨rfl, g15⟩
                                have K15 := Lib.hid (K14.out.ext g15)
                                have H15 := Lib.hid (H14.out.ext g15)
                                have U15 := Lib.hid (U14.out.ext g15)
                                have hd9 : decide ((l'.length : Int) + 1 < (l'.length : Int)) = false := by simp only [decide_eq_false_iff_not]; omega
                                have hd8 : decide ((l'.length : Int) + 0 < (l'.length : Int)) = false := by simp only [decide_eq_false_iff_not]; omega
                                clear g15 HBG K14 H14 B14 U14 U15
                                go_wp2
                                go_roundw
                                case rel => exact ⟨F.length + 1, a' + 1, l', by omega, by go_num, by omega, by go_num, by omega, ⟨_, _, H15.out, ST13.out, DA13.out, K15.out⟩⟩
                                case measure => simp [intOf] <;> omega
                              · rw [hl7] at st12
                                have HOP := Lib.hid (h12.openG st12 rfl (by simp; omega))
                                clear h12 st12 hl7
                                go_wp2_with fail
                                refine HOP.out.mono ?_
                                rintro e w13 ⟨S13, o13, h13, ch13, st13, hz13, hor⟩
                                obtain ⟨da13, -⟩ := hz13 rfl
                                rcases hor with ⟨dx, -⟩ | ⟨-, -, jb13, jv13, rfl, j13⟩
                                · rw [da13] at dx; cases dx
                                have K13 := Lib.hid (K12.out.ch ch13 (by omega))
                                have U13 := Lib.hid (U12.out.ch ch13 (by omega))
                                have HR13 := Lib.hid (recs_any j13 (by simp; omega))
                                have H13 := Lib.hid h13
                                have ST13 := Lib.hid st13
                                have DA13 := Lib.hid da13
                                clear h13 ch13 st13 hz13 da13 j13 HOP K12 U12
                                go_wp2_with fail
                                refine HR13.out.mono ?_
                                rintro e w14 ⟨⟨v14, rfl, b14⟩, g14⟩
                                obtain ⟨A14, c14, rfl⟩ := b14.rd.form
                                have K14 := Lib.hid (K13.out.ext g14)
                                have U14 := Lib.hid (U13.out.ext g14)
                                have H14 := Lib.hid (H13.out.ext g14)
                                have HBG := Lib.hid (begins_any _ _ (l' ++ [⟨xa, xb, xc⟩]) l' w14 b14.rd (Own.rd K14.out.own) (by simp; omega) (by simp) (by simp))
                                have B14 := Lib.hid b14.rd
                                clear b14 g14 HR13 K13 H13 U13
                                have hlen : (l' ++ [(⟨xa, xb, xc⟩ : Rc)]).length = l'.length + 1 := by simp
                                rw [hlen] at HBG ⊢
                                have HLEN := Lib.hid hlen
                                clear hlen
                                go_wp2_with fail
                                refine HBG.out.mono ?_
                                rintro e w15 ⟨rfl, g15⟩
                                have K15 := Lib.hid (K14.out.ext g15)
                                have H15 := Lib.hid (H14.out.ext g15)
                                have U15 := Lib.hid (U14.out.ext g15)
                                obtain ⟨gL, offL, hAL, -, -, hcL⟩ := B14.out.at_
                                obtain rfl := hAL (by simp)
                                obtain ⟨y0, y1, y2⟩ := at3 hcL g15 (k := l'.length) (by simp) (a := xa) (b := xb) (c := xc) (by simp)
                                have z0 : w15.cell? ⟨w6.heap.size, 0, none⟩ = some (.int .u32 xa.toNat) := by
                                  obtain ⟨_, _, _, _, _, e, _, _, _, hA, _, hx, _⟩ := U15.out.own
                                  cases e
                                  cases hA (by omega)
                                  exact hx 0 (by omega)
                                have z1 : w15.cell? ⟨w6.heap.size, 1, none⟩ = some (.int .u32 xb.toNat) := by
                                  obtain ⟨_, _, _, _, _, e, _, _, _, hA, _, hx, _⟩ := U15.out.own
                                  cases e
                                  cases hA (by omega)
                                  exact hx 1 (by omega)
                                have z2 : w15.cell? ⟨w6.heap.size, 2, none⟩ = some (.int .u32 xc.toNat) := by
                                  obtain ⟨_, _, _, _, _, e, _, _, _, hA, _, hx, _⟩ := U15.out.own
                                  cases e
                                  cases hA (by omega)
                                  exact hx 2 (by omega)
                                have hne := run_neqR ⟨xa, xb, xc⟩ ⟨xa, xb, xc⟩
                                have heq : rcEq ⟨xa, xb, xc⟩ ⟨xa, xb, xc⟩ = true := (rcEq_iff ⟨xa, xb, xc⟩ ⟨xa, xb, xc⟩).2 rfl
                                rw [heq] at hne
                                simp only [Rc.cells] at hne
                                have HZ15 := Lib.hid H15.out.gr.size
                                clear heq hcL hAL g15 HBG K14 H14 B14 U14 U15 HLEN
                                go_wp2_with fail
                                go_quiet (fail)
                                clear hne
                                have HOWN9 : Hid (OwnR (w15.drewN nq) w.heap.size (.slice As5 l'.length cs5) l') := (K15.out.ext (gr_drewN _ _ none)).own
                                have HZZ9 : Hid (w.heap.size ≤ (w15.drewN nq).heap.size) := HZ15.out
                                go_wp2_with (at_builtin; refine wp_app1RK ⟨xa, xb, xc⟩ _ rfl rfl (.tmp 204) (.tmp 208) rfl rfl HOWN9.out _ rfl rfl (by omega) HZZ9.out ?_; intro v18 w18 o18 e18)
                                have HT18 : Hid (Turn w d v18 (l' ++ [⟨xa, xb, xc⟩]) w18) := by
                                  have k1 := (H15.out.ext (gr_drewN w15 nq none)).ext (gr_alloc (w15.drewN nq) (.cells #[.int .u32 xa.toNat, .int .u32 xb.toNat, .int .u32 xc.toNat] 58) none)
                                  have k2 := (K15.out.ext (gr_drewN w15 nq none)).ext (gr_alloc (w15.drewN nq) (.cells #[.int .u32 xa.toNat, .int .u32 xb.toNat, .int .u32 xc.toNat] 58) none)
                                  exact ⟨_, _, k1.grown k2 e18, ST13.out, DA13.out, Kp.grown k1 k2 e18 o18⟩
                                clear o18 e18 H15 K15
                                go_roundw
                                case rel => exact ⟨F.length + 1, a' + 1, _, by omega, by go_num, by omega, by go_num, by simp; omega, HT18⟩
                                case measure => simp [intOf] <;> omega
                            · have HKV : Hid (∀ wx, w.grownBy wx none → RdI wx (.slice none 0 0) []) := fun wx hx => Rd.nil _ _
                              have htk : (KK.length : Int) ≤ (F.length : Nat) := by omega
                              clear tk
                              go_wp2_with (at_builtin; refine wp_appI (m := []) (l := []) rfl (.tmp 162) (.tmp 163) rfl rfl (own_emptyI _ _ (Nat.le_refl _)) rfl (HKV.out _ (gr_none HD4.out.gr (gr_alloc _ _ none))) (by simp) (by simp) ?_; rintro v11 w11 o11 g11 -)
                              rw [List.nil_append] at o11
                              have g12 : World.grownBy W7 w11 none := gr_trans (gr_alloc _ _ _) g11 (.inr (fun g e => by cases e; exact Nat.le_refl _))
                              have HD11 := Lib.hid (HD4.out.ext g12)
                              have K11 := Lib.hid (K4.out.ext g12)
                              have U11 := Lib.hid (U4.out.ext g12)
                              have HON := Lib.hid (HD11.out.on ST4.out.looseIn (by have := ST4.out.nl; omega) (by have := ST4.out.few; omega) DE4.out (keep := []) (Own.rd o11) (by first | omega | simp))
                              clear o11 g11 g12 HKV HD4 K4 
                              go_wp2_with fail
                              refine HON.out.mono ?_
                              rintro e w12 ⟨rfl, ls, hls, o12, h12, ch12⟩
                              obtain ⟨l6, hl6, st12⟩ := ST4.out.lit (keep := []) hls (by have := ST4.out.x1; rw [List.length_append]; omega)
                              have K12 := Lib.hid (K11.out.ch ch12 (by omega))
                              have U12 := Lib.hid (U11.out.ch ch12 (by omega))
                              clear hls ch12 HON HD11 K11 ST4 DE4 U11
                              have hl7 : l6 = l' ∨ l6 = l' ++ [⟨xa, xb, xc⟩] := by
                                rcases hl6 with h | h
                                · exact .inl h
                                · rcases HX.out with e | e
                                  · rw [e, List.append_nil] at h; exact .inl h
                                  · rw [e] at h; exact .inr h
                              clear hl6 HX
                              rcases hl7 with hl7 | hl7
                              · rw [hl7] at st12
                                have HOP := Lib.hid (h12.openG st12 rfl (by omega))
                                clear h12 st12 hl7
                                go_wp2_with fail
                                refine HOP.out.mono ?_
                                rintro e w13 ⟨S13, o13, h13, ch13, st13, hz13, hor⟩
                                obtain ⟨da13, -⟩ := hz13 rfl
                                rcases hor with ⟨dx, -⟩ | ⟨-, -, jb13, jv13, rfl, j13⟩
                                · rw [da13] at dx; cases dx
                                have K13 := Lib.hid (K12.out.ch ch13 (by omega))
                                have U13 := Lib.hid (U12.out.ch ch13 (by omega))
                                have HR13 := Lib.hid (recs_any j13 (by omega))
                                have H13 := Lib.hid h13
                                have ST13 := Lib.hid st13
                                have DA13 := Lib.hid da13
                                clear h13 ch13 st13 hz13 da13 j13 HOP K12 U12
                                go_wp2_with fail
                                refine HR13.out.mono ?_
                                rintro e w14 ⟨⟨v14, rfl, b14⟩, g14⟩
                                obtain ⟨A14, c14, rfl⟩ := b14.rd.form
                                have K14 := Lib.hid (K13.out.ext g14)
                                have U14 := Lib.hid (U13.out.ext g14)
                                have H14 := Lib.hid (H13.out.ext g14)
                                have HBG := Lib.hid (begins_any _ _ l' l' w14 b14.rd (Own.rd K14.out.own) (by omega) (by simp) (by simp))
                                have B14 := Lib.hid b14.rd
                                clear b14 g14 HR13 K13 H13 U13
                                go_wp2_with fail
                                refine HBG.out.mono ?_
                                rintro e w15 ⟨rfl, g15⟩
                                have K15 := Lib.hid (K14.out.ext g15)
                                have H15 := Lib.hid (H14.out.ext g15)
                                have U15 := Lib.hid (U14.out.ext g15)
                                have hd9 : decide ((l'.length : Int) + 1 < (l'.length : Int)) = false := by simp only [decide_eq_false_iff_not]; omega
                                have hd8 : decide ((l'.length : Int) + 0 < (l'.length : Int)) = false := by simp only [decide_eq_false_iff_not]; omega
                                clear g15 HBG K14 H14 B14 U14 U15
                                go_wp2
                                go_roundw
                                case rel => exact ⟨F.length + 1, a' + 1, l', by omega, by go_num, by omega, by go_num, by omega, ⟨_, _, H15.out, ST13.out, DA13.out, K15.out⟩⟩
                                case measure => simp [intOf] <;> omega
                              · rw [hl7] at st12
                                have HOP := Lib.hid (h12.openG st12 rfl (by simp; omega))
                                clear h12 st12 hl7
                                go_wp2_with fail
                                refine HOP.out.mono ?_
                                rintro e w13 ⟨S13, o13, h13, ch13, st13, hz13, hor⟩
                                obtain ⟨da13, -⟩ := hz13 rfl
                                rcases hor with ⟨dx, -⟩ | ⟨-, -, jb13, jv13, rfl, j13⟩
                                · rw [da13] at dx; cases dx
                                have K13 := Lib.hid (K12.out.ch ch13 (by omega))
                                have U13 := Lib.hid (U12.out.ch ch13 (by omega))
                                have HR13 := Lib.hid (recs_any j13 (by simp; omega))
                                have H13 := Lib.hid h13
                                have ST13 := Lib.hid st13
                                have DA13 := Lib.hid da13
                                clear h13 ch13 st13 hz13 da13 j13 HOP K12 U12
                                go_wp2_with fail
                                refine HR13.out.mono ?_
                                rintro e w14 ⟨⟨v14, rfl, b14⟩, g14⟩
                                obtain ⟨A14, c14, rfl⟩ := b14.rd.form
                                have K14 := Lib.hid (K13.out.ext g14)
                                have U14 := Lib.hid (U13.out.ext g14)
                                have H14 := Lib.hid (H13.out.ext g14)
                                have HBG := Lib.hid (begins_any _ _ (l' ++ [⟨xa, xb, xc⟩]) l' w14 b14.rd (Own.rd K14.out.own) (by simp; omega) (by simp) (by simp))
                                have B14 := Lib.hid b14.rd
                                clear b14 g14 HR13 K13 H13 U13
                                have hlen : (l' ++ [(⟨xa, xb, xc⟩ : Rc)]).length = l'.length + 1 := by simp
                                rw [hlen] at HBG ⊢
                                have HLEN := Lib.hid hlen
                                clear hlen
                                go_wp2_with fail
                                refine HBG.out.mono ?_
                                rintro e w15 ⟨rfl, g15⟩
                                have K15 := Lib.hid (K14.out.ext g15)
                                have H15 := Lib.hid (H14.out.ext g15)
                                have U15 := Lib.hid (U14.out.ext g15)
                                obtain ⟨gL, offL, hAL, -, -, hcL⟩ := B14.out.at_
                                obtain rfl := hAL (by simp)
                                obtain ⟨y0, y1, y2⟩ := at3 hcL g15 (k := l'.length) (by simp) (a := xa) (b := xb) (c := xc) (by simp)
                                have z0 : w15.cell? ⟨w6.heap.size, 0, none⟩ = some (.int .u32 xa.toNat) := by
                                  obtain ⟨_, _, _, _, _, e, _, _, _, hA, _, hx, _⟩ := U15.out.own
                                  cases e
                                  cases hA (by omega)
                                  exact hx 0 (by omega)
                                have z1 : w15.cell? ⟨w6.heap.size, 1, none⟩ = some (.int .u32 xb.toNat) := by
                                  obtain ⟨_, _, _, _, _, e, _, _, _, hA, _, hx, _⟩ := U15.out.own
                                  cases e
                                  cases hA (by omega)
                                  exact hx 1 (by omega)
                                have z2 : w15.cell? ⟨w6.heap.size, 2, none⟩ = some (.int .u32 xc.toNat) := by
                                  obtain ⟨_, _, _, _, _, e, _, _, _, hA, _, hx, _⟩ := U15.out.own
                                  cases e
                                  cases hA (by omega)
                                  exact hx 2 (by omega)
                                have hne := run_neqR ⟨xa, xb, xc⟩ ⟨xa, xb, xc⟩
                                have heq : rcEq ⟨xa, xb, xc⟩ ⟨xa, xb, xc⟩ = true := (rcEq_iff ⟨xa, xb, xc⟩ ⟨xa, xb, xc⟩).2 rfl
                                rw [heq] at hne
                                simp only [Rc.cells] at hne
                                have HZ15 := Lib.hid H15.out.gr.size
                                clear heq hcL hAL g15 HBG K14 H14 B14 U14 U15 HLEN
                                go_wp2_with fail
                                go_quiet (fail)
                                clear hne
                                have HOWN9 : Hid (OwnR (w15.drewN nq) w.heap.size (.slice As5 l'.length cs5) l') := (K15.out.ext (gr_drewN _ _ none)).own
                                have HZZ9 : Hid (w.heap.size ≤ (w15.drewN nq).heap.size) := HZ15.out
                                go_wp2_with (at_builtin; refine wp_app1RK ⟨xa, xb, xc⟩ _ rfl rfl (.tmp 204) (.tmp 208) rfl rfl HOWN9.out _ rfl rfl (by omega) HZZ9.out ?_; intro v18 w18 o18 e18)
                                have HT18 : Hid (Turn w d v18 (l' ++ [⟨xa, xb, xc⟩]) w18) := by
                                  have k1 := (H15.out.ext (gr_drewN w15 nq none)).ext (gr_alloc (w15.drewN nq) (.cells #[.int .u32 xa.toNat, .int .u32 xb.toNat, .int .u32 xc.toNat] 58) none)
                                  have k2 := (K15.out.ext (gr_drewN w15 nq none)).ext (gr_alloc (w15.drewN nq) (.cells #[.int .u32 xa.toNat, .int .u32 xb.toNat, .int .u32 xc.toNat] 58) none)
                                  exact ⟨_, _, k1.grown k2 e18, ST13.out, DA13.out, Kp.grown k1 k2 e18 o18⟩
                                clear o18 e18 H15 K15
                                go_roundw
                                case rel => exact ⟨F.length + 1, a' + 1, _, by omega, by go_num, by omega, by go_num, by simp; omega, HT18⟩
                                case measure => simp [intOf] <;> omega
                  · obtain rfl : a' = R.length := by omega
                    have HDD := Lib.hid HD5.out.dead
                    rw [DE5.out] at HDD
                    have HA5 := Lib.hid (HD5.out.arm (1 : Nat) (by omega))
                    have e5 : S5.arm (1 : Nat) = ({ S5 with armed := 1 }, 0) := by unfold Dk.arm; rw [if_neg (by omega), if_neg (by rw [DE5.out]; simp)]; rfl
                    rw [e5] at HA5
                    clear e5
                    go_wp2_with fail
                    refine HDD.out.mono ?_
                    rintro e w6 ⟨rfl, rfl⟩
                    clear HDD
                    go_wp2_with fail
                    refine HA5.out.mono ?_
                    rintro e w7 ⟨rfl, o7, h7, ch7⟩
                    have HS7 := Lib.hid (h7.sync jn (by simp))
                    rw [sync_off] at HS7
                    have K7 := Lib.hid (K5.out.unjo.ch ch7 (by omega))
                    clear h7 ch7 HA5
                    go_wp2_with fail
                    refine HS7.out.mono ?_
                    rintro e w8 ⟨rfl, o8, h8, ch8⟩
                    have K4 := Lib.hid (K7.out.ch ch8 (by omega))
                    obtain ⟨S4, hS4⟩ : ∃ S4, S4 = S5.off := ⟨_, rfl⟩
                    have ST4 : Hid (St S4 l' [] 5000) := by show St _ _ _ _; rw [hS4]; have h9 := ST5.out.same (S' := S5.off) rfl rfl rfl rfl; exact h9.mono (by omega)
                    have DE4 : Hid (S4.dead = true) := by show _ = _; rw [hS4]; rfl
                    have HD4 : Hid (DA w d o8 S4 w8) := by show DA _ _ _ _ _; rw [hS4]; exact h8
                    clear h8 ch8 HS7 K7 hS4 HD5 ST5 DE5 F5 J5 K5
                    as_aux_lemma =>
                      by_cases tk : F.length < KK.length
                      · have := HAK.out (by omega)
                        subst this
                        obtain ⟨Ak, ck, hck, hkr⟩ := HCK.out F.length tk
                        have hm100 := HK100.out F.length tk
                        obtain ⟨m, hm⟩ : ∃ m, m = KK.getD F.length [] := ⟨_, rfl⟩
                        rw [← hm] at hck hkr hm100
                        have hck4 := HD4.out.gr.cell hck (by simp)
                        have HKV : Hid (∀ wx, w.grownBy wx none → RdI wx (.slice Ak m.length ck) m) := fun wx hx => hkr.ext hx
                        clear hm hck hkr
                        go_wp2_with (at_builtin; refine wp_appI (m := m) (l := []) rfl (.tmp 162) (.tmp 163) rfl rfl (own_emptyI _ _ (Nat.le_refl _)) rfl (HKV.out _ (gr_none HD4.out.gr (gr_alloc _ _ none))) (by simp; omega) (by simp) ?_; rintro v11 w11 o11 g11 -)
                        rw [List.nil_append] at o11
                        have g12 : World.grownBy w8 w11 none := gr_trans (gr_alloc _ _ _) g11 (.inr (fun g e => by cases e; exact Nat.le_refl _))
                        have HD11 := Lib.hid (HD4.out.ext g12)
                        have K11 := Lib.hid (K4.out.ext g12)
                        have HON := Lib.hid (HD11.out.on ST4.out.looseIn (by have := ST4.out.nl; omega) (by have := ST4.out.few; omega) DE4.out (keep := m) (Own.rd o11) (by first | omega | simp))
                        clear o11 g11 g12 HKV HD4 K4 hck4 
                        go_wp2_with fail
                        refine HON.out.mono ?_
                        rintro e w12 ⟨rfl, ls, hls, o12, h12, ch12⟩
                        obtain ⟨l6, hl6, st12⟩ := ST4.out.lit (keep := m) hls (by have := ST4.out.x1; rw [List.length_append]; omega)
                        have K12 := Lib.hid (K11.out.ch ch12 (by omega))
                        clear hls ch12 HON HD11 K11 ST4 DE4 
                        have hl7 : l6 = l' := by
                          rcases hl6 with h | h
                          · exact h
                          · simpa using h
                        clear hl6
                        rw [hl7] at st12
                        have HOP := Lib.hid (h12.openG st12 rfl (by omega))
                        clear h12 st12 hl7
                        go_wp2_with fail
                        refine HOP.out.mono ?_
                        rintro e w13 ⟨S13, o13, h13, ch13, st13, hz13, hor⟩
                        obtain ⟨da13, -⟩ := hz13 rfl
                        rcases hor with ⟨dx, -⟩ | ⟨-, -, jb13, jv13, rfl, j13⟩
                        · rw [da13] at dx; cases dx
                        have K13 := Lib.hid (K12.out.ch ch13 (by omega))
                        have HR13 := Lib.hid (recs_any j13 (by omega))
                        have H13 := Lib.hid h13
                        have ST13 := Lib.hid st13
                        have DA13 := Lib.hid da13
                        clear h13 ch13 st13 hz13 da13 j13 HOP K12 
                        go_wp2_with fail
                        refine HR13.out.mono ?_
                        rintro e w14 ⟨⟨v14, rfl, b14⟩, g14⟩
                        obtain ⟨A14, c14, rfl⟩ := b14.rd.form
                        have K14 := Lib.hid (K13.out.ext g14)
                        have H14 := Lib.hid (H13.out.ext g14)
                        have HBG := Lib.hid (begins_any _ _ l' l' w14 b14.rd (Own.rd K14.out.own) (by omega) (by simp) (by simp))
                        have B14 := Lib.hid b14.rd
                        clear b14 g14 HR13 K13 H13 
                        go_wp2_with fail
                        refine HBG.out.mono ?_
                        rintro e w15 ⟨rfl, g15⟩
                        have K15 := Lib.hid (K14.out.ext g15)
                        have H15 := Lib.hid (H14.out.ext g15)
                        have hd9 : decide ((l'.length : Int) + 1 < (l'.length : Int)) = false := by simp only [decide_eq_false_iff_not]; omega
                        have hd8 : decide ((l'.length : Int) + 0 < (l'.length : Int)) = false := by simp only [decide_eq_false_iff_not]; omega
                        clear g15 HBG K14 H14 B14 
                        go_wp2
                        go_roundw
                        case rel => exact ⟨F.length + 1, R.length, l', by omega, by go_num, by omega, by go_num, by omega, ⟨_, _, H15.out, ST13.out, DA13.out, K15.out⟩⟩
                        case measure => simp [intOf] <;> omega
                      · have HKV : Hid (∀ wx, w.grownBy wx none → RdI wx (.slice none 0 0) []) := fun wx hx => Rd.nil _ _
                        have htk : (KK.length : Int) ≤ (F.length : Nat) := by omega
                        clear tk
                        go_wp2_with (at_builtin; refine wp_appI (m := []) (l := []) rfl (.tmp 162) (.tmp 163) rfl rfl (own_emptyI _ _ (Nat.le_refl _)) rfl (HKV.out _ (gr_none HD4.out.gr (gr_alloc _ _ none))) (by simp) (by simp) ?_; rintro v11 w11 o11 g11 -)
                        rw [List.nil_append] at o11
                        have g12 : World.grownBy w8 w11 none := gr_trans (gr_alloc _ _ _) g11 (.inr (fun g e => by cases e; exact Nat.le_refl _))
                        have HD11 := Lib.hid (HD4.out.ext g12)
                        have K11 := Lib.hid (K4.out.ext g12)
                        have HON := Lib.hid (HD11.out.on ST4.out.looseIn (by have := ST4.out.nl; omega) (by have := ST4.out.few; omega) DE4.out (keep := []) (Own.rd o11) (by first | omega | simp))
                        clear o11 g11 g12 HKV HD4 K4 
                        go_wp2_with fail
                        refine HON.out.mono ?_
                        rintro e w12 ⟨rfl, ls, hls, o12, h12, ch12⟩
                        obtain ⟨l6, hl6, st12⟩ := ST4.out.lit (keep := []) hls (by have := ST4.out.x1; rw [List.length_append]; omega)
                        have K12 := Lib.hid (K11.out.ch ch12 (by omega))
                        clear hls ch12 HON HD11 K11 ST4 DE4 
                        have hl7 : l6 = l' := by
                          rcases hl6 with h | h
                          · exact h
                          · simpa using h
                        clear hl6
                        rw [hl7] at st12
                        have HOP := Lib.hid (h12.openG st12 rfl (by omega))
                        clear h12 st12 hl7
                        go_wp2_with fail
                        refine HOP.out.mono ?_
                        rintro e w13 ⟨S13, o13, h13, ch13, st13, hz13, hor⟩
                        obtain ⟨da13, -⟩ := hz13 rfl
                        rcases hor with ⟨dx, -⟩ | ⟨-, -, jb13, jv13, rfl, j13⟩
                        · rw [da13] at dx; cases dx
                        have K13 := Lib.hid (K12.out.ch ch13 (by omega))
                        have HR13 := Lib.hid (recs_any j13 (by omega))
                        have H13 := Lib.hid h13
                        have ST13 := Lib.hid st13
                        have DA13 := Lib.hid da13
                        clear h13 ch13 st13 hz13 da13 j13 HOP K12 
                        go_wp2_with fail
                        refine HR13.out.mono ?_
                        rintro e w14 ⟨⟨v14, rfl, b14⟩, g14⟩
                        obtain ⟨A14, c14, rfl⟩ := b14.rd.form
                        have K14 := Lib.hid (K13.out.ext g14)
                        have H14 := Lib.hid (H13.out.ext g14)
                        have HBG := Lib.hid (begins_any _ _ l' l' w14 b14.rd (Own.rd K14.out.own) (by omega) (by simp) (by simp))
                        have B14 := Lib.hid b14.rd
                        clear b14 g14 HR13 K13 H13 
                        go_wp2_with fail
                        refine HBG.out.mono ?_
                        rintro e w15 ⟨rfl, g15⟩
                        have K15 := Lib.hid (K14.out.ext g15)
                        have H15 := Lib.hid (H14.out.ext g15)
                        have hd9 : decide ((l'.length : Int) + 1 < (l'.length : Int)) = false := by simp only [decide_eq_false_iff_not]; omega
                        have hd8 : decide ((l'.length : Int) + 0 < (l'.length : Int)) = false := by simp only [decide_eq_false_iff_not]; omega
                        clear g15 HBG K14 H14 B14 
                        go_wp2
                        go_roundw
                        case rel => exact ⟨F.length + 1, R.length, l', by omega, by go_num, by omega, by go_num, by omega, ⟨_, _, H15.out, ST13.out, DA13.out, K15.out⟩⟩
                        case measure => simp [intOf] <;> omega
          · have htn : (F.length : Int) < (t : Int) := by omega
            have HG := Lib.hid HD.out.gr
            clear HD HST HDE HKP
            go_wp2_with (go_at_call 29; refine (works_any _).mono ?_; rintro e w3 ⟨rfl, g3⟩)
            go_ret
            exact ⟨rfl, gr_none HG.out g3⟩
end Go.Proofs.Ytfbbbbekialpnaa
