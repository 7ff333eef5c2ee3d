/-
  slices.Sort at []uint32: pdqsort; Sort.
-/
import Derived.Test.YtbdieifggciopaaUf
namespace Go.Proofs.Ytbdieifggciopaa
open Go.RowKit
set_option maxRecDepth 100000
set_option maxHeartbeats 400000

theorem pivotU' (g off cap a b n : Nat) (d : Array UInt32) (w : World) (h : At32 w g off n d w) (hab : a < b) (hb : b ≤ n) (hn : n < 4611686018427387904) :
    Calls Try.prog 34 #[.slice (some ⟨g, off, none⟩) n cap, .int .i64 a, .int .i64 b] w fun e w' => e = .returned (.tuple #[.int .i64 (Go.Sort.choosePivot ltU d a b).1, .int .i64 (Go.Sort.hintCode (Go.Sort.choosePivot ltU d a b).2)]) ∧ At32 w g off n d w' := by
  obtain ⟨l, rfl⟩ : ∃ l, b = a + l := ⟨b - a, by omega⟩
  have := pivotU g off cap a l n d w h (by omega) hb hn
  rw [show ((a + l : Nat) : Int) = (a : Int) + (l : Int) from by omega]
  exact this
theorem breakU' (g off cap a b n : Nat) (d : Array UInt32) (w : World) (h : At32 w g off n d w) (hb : b ≤ n) (hn : n < 4611686018427387904) (h8 : 8 ≤ b - a) :
    Calls Try.prog 33 #[.slice (some ⟨g, off, none⟩) n cap, .int .i64 a, .int .i64 b] w fun e w' => e = .returned (.tuple #[]) ∧ At32 w g off n (Go.Sort.breakPatterns d a b) w' := by
  obtain ⟨l, rfl⟩ : ∃ l, b = a + l := ⟨b - a, by omega⟩
  have := breakU g off cap a l n d w h hb hn (by omega)
  rw [show ((a + l : Nat) : Int) = (a : Int) + (l : Int) from by omega]
  exact this
theorem eighthU {x y p q : Nat} (h1 : q ≤ p) (h2 : y ≤ x) : decide (((x : Int) - (y : Int)) / 8 ≤ (p : Int) - (q : Int)) = decide (p - q ≥ (x - y) / 8) :=
  decide_eq_decide.2 ⟨fun h => by omega, fun h => by omega⟩
set_option maxHeartbeats 16000000 in
theorem pdqU : ∀ (N g off cap a b lim n : Nat) (d : Array UInt32) (w : World), b - a < N → At32 w g off n d w → a ≤ b → b ≤ n → n < 4611686018427387904 → lim < 4611686018427387904 → Go.Sort.Below ltU a b d →
    Calls Try.prog 27 #[.slice (some ⟨g, off, none⟩) n cap, .int .i64 a, .int .i64 b, .int .i64 lim] w fun e w' => e = .returned (.tuple #[]) ∧ At32 w g off n (Go.Sort.pdq ltU d a b lim true true) w' := by
  intro N
  induction N with
  | zero => intro _ _ _ _ _ _ _ _ _ h; exact absurd h (Nat.not_lt_zero _)
  | succ N ih =>
    intro g off cap a b lim n d w hN hat0 hab hb hn hlm hbel
    have hgw := Lib.hid hat0.2.2.1
    have IH := Lib.hid ih
    clear ih
    go_enter Try.func27, Try.ntmps27
    go_wp2
    go_loopw [1, 2, 3, 8, 9] (fun s1 s2 s3 s8 s9 wr => ∃ (x y lm : Nat) (wb wp : Bool) (dk : Array UInt32), s1 = .int .i64 x ∧ s2 = .int .i64 y ∧ s3 = .int .i64 lm ∧ s8 = .bool wb ∧ s9 = .bool wp ∧
      x ≤ y ∧ y ≤ n ∧ y - x ≤ b - a ∧ lm ≤ lim ∧ Hid (Go.Sort.Below ltU x y dk) ∧ Hid (At32 w g off n dk wr) ∧ Hid (Go.Sort.pdq ltU dk x y lm wb wp = Go.Sort.pdq ltU d a b lim true true)) (fun s1 s2 _ _ _ _ => (intOf s2 - intOf s1).toNat)
    case atStart => exact ⟨a, b, lim, true, true, d, rfl, rfl, rfl, rfl, rfl, hab, hb, Nat.le_refl _, Nat.le_refl _, hbel, hat0, Lib.hid rfl⟩
    case round =>
      clear hat0 hbel hab hb
      obtain ⟨x, y, lm, wb, wp, dk, rfl, rfl, rfl, rfl, rfl, hxy, hyn, hyx, hlm2, hbel, hat, HE⟩ := hrel
      by_cases h12 : y - x ≤ 12
      · have h12z : (y : Int) - (x : Int) ≤ 12 := by omega
        have HC := Lib.hid (insertionU g off cap x y n dk wr hat.out.here hxy hyn hn)
        have HX := Lib.hid ((Go.Sort.pdq_small (lt := ltU) (d := dk) (limit := lm) (wb := wb) (wp := wp) h12).symm.trans HE.out)
        clear HE
        go_wp2_with fail
        refine HC.out.mono ?_
        rintro e wz ⟨rfl, hz⟩
        have HZ := Lib.hid (hat.out.trans hgw.out hz)
        clear hz
        go_wp2
        (try simp only [Exit.inBlock, Exit.then])
        refine bodyPost_ret (results_none rfl _ _ _) rfl ?_
        exact ⟨rfl, by rw [← HX.out]; exact HZ.out⟩
      · have h12z : ¬ ((y : Int) - (x : Int) ≤ 12) := by omega
        by_cases hl0 : lm = 0
        · subst hl0
          have HC := Lib.hid (heapU g off cap x y n dk wr hat.out.here hxy hyn hn)
          have HX := Lib.hid ((Go.Sort.pdq_heap (lt := ltU) (d := dk) (wb := wb) (wp := wp) h12 rfl).symm.trans HE.out)
          clear HE
          go_wp2_with fail
          refine HC.out.mono ?_
          rintro e wz ⟨rfl, hz⟩
          have HZ := Lib.hid (hat.out.trans hgw.out hz)
          clear hz
          go_wp2
          (try simp only [Exit.inBlock, Exit.then])
          refine bodyPost_ret (results_none rfl _ _ _) rfl ?_
          exact ⟨rfl, by rw [← HX.out]; exact HZ.out⟩
        · have hl0z : ¬ ((lm : Int) = 0) := by omega
          have hl0b : ((lm : Int) == 0) = false := by simp; omega
          have hF := Go.Sort.rd_facts (lt := ltU) (limit := lm) (wb := wb) (wp := wp) swo_ltU Go.Sort.partialInsertionSort_holds Go.Sort.reverseRange_holds (show x < y by omega) (show y ≤ dk.size by rw [hat.out.1]; exact hyn) hbel.out
          have hLM := Go.Sort.rd_lim_le (lt := ltU) (d := dk) (a := x) (b := y) (limit := lm) (wb := wb) (wp := wp)
          have hBF : wb = false → (Go.Sort.rd ltU dk x y lm wb wp).d1 = Go.Sort.breakPatterns dk x y ∧ (Go.Sort.rd ltU dk x y lm wb wp).lim = lm - 1 := fun e => by subst e; exact Go.Sort.rd_false
          have hBT : wb = true → (Go.Sort.rd ltU dk x y lm wb wp).d1 = dk ∧ (Go.Sort.rd ltU dk x y lm wb wp).lim = lm := fun e => by subst e; exact Go.Sort.rd_true
          have hCP : Go.Sort.choosePivot ltU (Go.Sort.rd ltU dk x y lm wb wp).d1 x y = (Go.Sort.rd ltU dk x y lm wb wp).c := rfl
          have hDEC := @Go.Sort.rd_dec UInt32 _ ltU dk x y lm wb wp
          have hNOT := @Go.Sort.rd_not UInt32 _ ltU dk x y lm wb wp
          have hPY := @Go.Sort.rd_pi_yes UInt32 _ ltU dk x y lm wb wp
          have hPN := @Go.Sort.rd_pi_no UInt32 _ ltU dk x y lm wb wp
          have hPD := fun h1 => (@Go.Sort.pdq_done UInt32 _ ltU dk x y lm wb wp h12 hl0 h1).symm.trans HE.out
          have hEQ := fun h1 h2 h3 => (@Go.Sort.pdq_eq UInt32 _ ltU dk x y lm wb wp h12 hl0 h1 h2 h3).symm.trans HE.out
          have hLE := fun h1 h2 h3 h4 => (@Go.Sort.pdq_left UInt32 _ ltU dk x y lm wb wp h12 hl0 h1 h2 h3 h4).symm.trans HE.out
          have hRI := fun h1 h2 h3 h4 => (@Go.Sort.pdq_right UInt32 _ ltU dk x y lm wb wp h12 hl0 h1 h2 h3 h4).symm.trans HE.out
          generalize Go.Sort.rd ltU dk x y lm wb wp = r at *
          obtain ⟨d1, rl, ⟨c1, c2⟩, d2, pv, hint, ⟨d3, pb⟩⟩ := r
          simp only [] at hF hLM hBF hBT hCP hDEC hNOT hPY hPN hPD hEQ hLE hRI
          have HF := Lib.hid hF
          have HBF := Lib.hid hBF
          have HBT := Lib.hid hBT
          have HCP := Lib.hid hCP
          have HDEC := Lib.hid hDEC
          have HNOT := Lib.hid hNOT
          have HPY := Lib.hid hPY
          have HPN := Lib.hid hPN
          have HPD := Lib.hid hPD
          have HEQ := Lib.hid hEQ
          have HLE := Lib.hid hLE
          have HRI := Lib.hid hRI
          have hpv := hF.2.2.2.2.2.1
          have hpv1 := hpv.1
          have hpv2 := hpv.2
          have hc1 := hF.2.2.1.1
          have hc2 := hF.2.2.1.2
          clear hF hBF hBT hCP hDEC hNOT hPY hPN hPD hEQ hLE hRI hpv HE
          go_upto_if 35 with fail
          go_cut [3] from 19 to 133 (fun s3 wc => s3 = .int .i64 rl ∧ Hid (At32 w g off n d1 wc))
          case first =>
            cases wb
            · have HC := Lib.hid (breakU' g off cap x y n dk wr hat.out.here hyn hn (by omega))
              go_wp2_with fail
              refine HC.out.mono ?_
              rintro e wz ⟨rfl, hz⟩
              have HZ := Lib.hid (hat.out.trans hgw.out hz)
              clear hz
              go_wp2_with fail
              go_meet
              case rel =>
                obtain ⟨e1, e2⟩ := HBF.out (by first | exact trivial | rfl)
                refine ⟨?_, by rw [e1]; exact HZ⟩
                rw [e2]
                congr 1
                omega
            · go_wp2_with fail
              go_meet
              case rel =>
                obtain ⟨e1, e2⟩ := HBT.out (by first | exact trivial | rfl)
                exact ⟨by rw [e2], by rw [e1]; exact hat⟩
          case rest =>
            obtain ⟨rfl, hat1⟩ := hcut
            have HC := Lib.hid (pivotU' g off cap x y n d1 wc hat1.out.here (by omega) hyn hn)
            rw [HCP.out] at HC
            clear HBF HBT HCP hat
            go_upto_if 50 with fail
            refine HC.out.mono ?_
            rintro e wz ⟨rfl, hz⟩
            have hat2 := Lib.hid (hat1.out.trans hgw.out hz)
            clear hz HC hat1
            go_upto_if 50 with fail
            go_cut [11, 12] from 19 to 133 (fun s11 s12 wc => s11 = .int .i64 pv ∧ s12 = .int .i64 (Go.Sort.hintCode hint) ∧ Hid (At32 w g off n d2 wc))
            case first =>
              by_cases hh : c2 = .decreasing
              · subst hh
                obtain ⟨e1, e2, e3⟩ := HDEC.out rfl
                have HC := Lib.hid (reverseU g off cap x y n d1 wz hat2.out.here hxy hyn hn)
                have HE1 := Lib.hid e1
                have HE2 := Lib.hid e2
                have HE3 := Lib.hid e3
                have hcode : Go.Sort.hintCode .decreasing = 2 := rfl
                clear e1 e2 e3
                go_wp2_with fail
                refine HC.out.mono ?_
                rintro e wy ⟨rfl, hz⟩
                have HZ := Lib.hid (hat2.out.trans hgw.out hz)
                clear hz
                go_wp2_with fail
                go_meet
                case rel =>
                  refine ⟨?_, by rw [HE3.out]; rfl, by rw [HE1.out]; exact HZ⟩
                  rw [HE2.out]
                  congr 1
                  omega
              · have hcode : ((Go.Sort.hintCode c2 == 2)) = false := by cases c2 <;> first | rfl | exact absurd rfl hh
                obtain ⟨e1, e2, e3⟩ := HNOT.out hh
                have HE1 := Lib.hid e1
                have HE2 := Lib.hid e2
                have HE3 := Lib.hid e3
                clear e1 e2 e3 hh
                go_wp2_with fail
                go_meet
                case rel => exact ⟨by rw [HE2.out], by rw [HE3.out], by rw [HE1.out]; exact hat2⟩
            case rest =>
              obtain ⟨rfl, rfl, hat3⟩ := hcut
              clear HDEC HNOT hat2
              have k0 : Go.Sort.hintCode .unknown = 0 := rfl
              have k1 : Go.Sort.hintCode .increasing = 1 := rfl
              have k2 : Go.Sort.hintCode .decreasing = 2 := rfl
              go_upto_region 15 with fail
              go_cut [12, 68] from 19 to 133 (fun s12 s68 wc => (∃ q : Bool, s68 = .bool q ∧ Hid (q = (wb && wp && decide (hint = .increasing)))) ∧ Hid (At32 w g off n d2 wc))
              case first =>
                cases wb <;> cases wp <;> cases hint <;>
                  (go_wp2_with fail
                   go_meet
                   exact ⟨⟨_, rfl, Lib.hid (by simp)⟩, hat3⟩)
              case rest =>
                obtain ⟨⟨q, rfl, hq⟩, hat4⟩ := hcut
                clear hat3
                go_upto_if 68 with fail
                go_cut [] from 19 to 133 (fun wc => pb = false ∧ Hid (At32 w g off n d3 wc))
                case first =>
                  cases q
                  · have HP := Lib.hid (HPN.out hq.out.symm)
                    go_wp2_with fail
                    go_meet
                    case rel =>
                      have e := HP.out
                      simp only [Prod.mk.injEq] at e
                      exact ⟨e.2, by rw [e.1]; exact hat4⟩
                  · have HP := Lib.hid (HPY.out hq.out.symm)
                    have HC := Lib.hid (partialU g off cap x y n d2 wc hat4.out.here (by omega) hyn hn)
                    rw [← HP.out] at HC
                    clear HP hq
                    go_wp2_with fail
                    refine HC.out.mono ?_
                    rintro e wz ⟨rfl, hz⟩
                    have HZ := Lib.hid (hat4.out.trans hgw.out hz)
                    clear hz HC
                    cases pb
                    · go_wp2_with fail
                      go_meet
                      case rel => exact ⟨by first | exact trivial | rfl, HZ⟩
                    · have HX := Lib.hid (HPD.out (by first | exact trivial | rfl))
                      go_wp2
                      (try simp only [Exit.inBlock, Exit.then])
                      refine bodyPost_ret (results_none rfl _ _ _) rfl ?_
                      exact ⟨rfl, by rw [← HX.out]; exact HZ.out⟩
                case rest =>
                  obtain ⟨hpb, hat5⟩ := hcut
                  have HEQ2 := Lib.hid (HEQ.out hpb)
                  have HLE2 := Lib.hid (HLE.out hpb)
                  have HRI2 := Lib.hid (HRI.out hpb)
                  clear HEQ HLE HRI HPD HPN HPY hpb hat4 hq
                  obtain ⟨G, hG, hcw, hfw⟩ := hat5.out.cells
                  have HG := Lib.hid hG
                  clear hG
                  go_upto_region 17 with fail
                  go_cut [87] from 19 to 133 (fun s87 wc => (∃ q : Bool, s87 = .bool q ∧ Hid (q = (decide (x > 0) && !ltU d3[x - 1]! d3[pv]!))) ∧ Hid (At32 w g off n d3 wc))
                  case first =>
                    rcases Nat.eq_zero_or_pos x with ha0 | ha0
                    · have ha0z : ¬ (0 < x) := by omega
                      have HA0 := Lib.hid ha0
                      clear ha0
                      go_quiet (first | (go_at_call 37; refine Calls.quiet_of_same (lessU _ _ _)))
                      go_wp2_with fail
                      go_meet
                      case rel => exact ⟨⟨false, rfl, Lib.hid (by rw [HA0.out]; rfl)⟩, Lib.hid (hat5.out.drewN nq)⟩
                    · have ha0z : (0 : Int) < (x : Int) := by omega
                      go_quiet (first | (go_at_call 37; refine Calls.quiet_of_same (lessU _ _ _)))
                      go_wp2_with fail
                      go_meet
                      case rel => exact ⟨⟨_, rfl, Lib.hid (by rw [ltU_dec (HG.out _) (HG.out _)]; simp [ha0])⟩, Lib.hid (hat5.out.drewN nq)⟩
                  case rest =>
                    obtain ⟨⟨q, rfl, hq⟩, hat6⟩ := hcut
                    clear hcw hfw hat5 HG G
                    have hbel3 := HF.out.2.2.2.2.2.2.2
                    have hs3 : y ≤ d3.size := by rw [hat6.out.1]; exact hyn
                    cases q
                    · have HC := Lib.hid (partU g off cap x y pv n d3 wc hat6.out.here hpv1 hpv2 hyn hn)
                      have hrp := fun mid ap d4 hx => Go.Sort.round_part (ap := ap) (mid := mid) (d4 := d4) swo_ltU (Go.Sort.partition_holds ltU) hpv1 hpv2 hs3 hbel3 hx
                      have hL := HLE2.out hq.out.symm
                      have hR := HRI2.out hq.out.symm
                      clear HLE2 HRI2 HEQ2 hq
                      generalize Go.Sort.partition ltU d3 x y pv = T at *
                      obtain ⟨mid, ap, d4⟩ := T
                      obtain ⟨r1, r2, r3, r4, r5, r6, r7⟩ := hrp mid ap d4 rfl
                      simp only [] at hL hR
                      have HL := Lib.hid (hL ⟨r1, r2⟩)
                      have HR := Lib.hid (hR ⟨r1, r2⟩)
                      have H4 := Lib.hid r4
                      have H5 := Lib.hid r5
                      have H6 := Lib.hid r6
                      have H7 := Lib.hid r7
                      clear hrp hL hR r4 r5 r6 r7 hbel3
                      go_wp2_with fail
                      refine HC.out.mono ?_
                      rintro e wz ⟨rfl, hz⟩
                      have hat7 := Lib.hid (hat6.out.trans hgw.out hz)
                      clear hz HC hat6
                      by_cases h4 : mid - x < y - mid
                      · have h4z : (mid : Int) - (x : Int) < (y : Int) - (mid : Int) := by omega
                        have HIH := Lib.hid (IH.out g off cap x mid rl n d4 wz (by omega) hat7.out.here r1 (by omega) hn (by omega) H4.out)
                        have HPS := Lib.hid (Go.Sort.pdq_sorts ltU swo_ltU d4 x mid rl true true r1 (by omega) H4.out)
                        have HB := Lib.hid (H6.out _ HPS.out.1 HPS.out.2).1
                        have HX := Lib.hid (HL.out h4)
                        clear HL HR H6 H7 HPS
                        go_wp2_with fail
                        refine HIH.out.mono ?_
                        rintro e wy ⟨rfl, hz⟩
                        have hat8 := Lib.hid (hat7.out.trans hgw.out hz)
                        clear hz HIH
                        go_wp2
                        go_roundw
                        case rel => exact ⟨mid + 1, y, rl, decide (mid - x ≥ (y - x) / 8), ap, _, by go_num, rfl, rfl, congrArg Value.bool (eighthU (by omega) (by omega)), rfl, by omega, hyn, by omega, by omega, HB, hat8, HX⟩
                        case measure => simp [intOf]; omega
                      · have h4z : ¬ ((mid : Int) - (x : Int) < (y : Int) - (mid : Int)) := by omega
                        have HIH := Lib.hid (IH.out g off cap (mid + 1) y rl n d4 wz (by omega) hat7.out.here (by omega) hyn hn (by omega) H5.out)
                        have HPS := Lib.hid (Go.Sort.pdq_sorts ltU swo_ltU d4 (mid + 1) y rl true true (by omega) (by omega) H5.out)
                        have HB := Lib.hid (H7.out _ HPS.out.1 HPS.out.2).1
                        have HX := Lib.hid (HR.out h4)
                        clear HL HR H6 H7 HPS
                        go_wp2_with fail
                        refine HIH.out.mono ?_
                        rintro e wy ⟨rfl, hz⟩
                        have hat8 := Lib.hid (hat7.out.trans hgw.out hz)
                        clear hz HIH
                        go_wp2
                        go_roundw
                        case rel => exact ⟨x, mid, rl, decide (y - mid ≥ (y - x) / 8), ap, _, rfl, rfl, rfl, congrArg Value.bool (eighthU (by omega) (by omega)), rfl, by omega, by omega, by omega, by omega, HB, hat8, HX⟩
                        case measure => simp [intOf]; omega
                    · have hq2 := hq.out.symm
                      simp only [Bool.and_eq_true, decide_eq_true_eq, Bool.not_eq_true'] at hq2
                      have HC := Lib.hid (partEqU g off cap x y pv n d3 wc hat6.out.here hpv1 hpv2 hyn hn)
                      have hrp := fun mid d4 hx => Go.Sort.round_eq (mid := mid) (d4 := d4) swo_ltU (Go.Sort.partitionEqual_holds ltU) hq2.1 hpv1 hpv2 hs3 hbel3 hq2.2 hx
                      have hL := HEQ2.out hq.out.symm
                      clear HLE2 HRI2 HEQ2 hq hq2
                      generalize Go.Sort.partitionEqual ltU d3 x y pv = T at *
                      obtain ⟨mid, d4⟩ := T
                      obtain ⟨r1, r2, r3, r4, -⟩ := hrp mid d4 rfl
                      simp only [] at hL
                      have HX := Lib.hid (hL ⟨r1, r2⟩)
                      have H4 := Lib.hid r4
                      clear hrp hL r4 hbel3
                      go_wp2_with fail
                      refine HC.out.mono ?_
                      rintro e wz ⟨rfl, hz⟩
                      have hat7 := Lib.hid (hat6.out.trans hgw.out hz)
                      clear hz HC hat6
                      go_wp2
                      go_roundw
                      case rel => exact ⟨mid, y, rl, wb, wp, d4, rfl, rfl, rfl, rfl, rfl, r2, hyn, by omega, by omega, H4, hat7, HX⟩
                      case measure => simp [intOf]; omega
end Go.Proofs.Ytbdieifggciopaa
