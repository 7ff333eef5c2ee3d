/-
  The anchor of law10: a pool works.
-/
import Derived.Test.YtkfokgjpeaibpaaPo5
import Derived.Test.YtkfokgjpeaibpaaL6
import Derived.Lib.Builder
namespace Go.Proofs.Ytkfokgjpeaibpaa
open Go.RowKit Go.Maps
set_option maxRecDepth 100000
set_option maxHeartbeats 400000

theorem neq_disk (d : Nat) (w : World) : (binOp .neq 22 (.pointer (some ⟨d, 0, none⟩)) (.pointer (some ⟨d, 0, none⟩))).run Try.prog w = .ok (.bool false) w := by
  obtain ⟨j, hj⟩ := Option.isSome_iff_exists.1 (by kernel_rfl : (Try.prog.info? 85).isSome = true)
  exact Lib.run_neq_ptr_same w ⟨d, 0, none⟩ Try.underlying22 hj
theorem ok_an0 : okK an 0 := ⟨by simp [an]; unfold maxLen; omega, WalkArith.wf_i64 (by omega)⟩
def wkS : Dk := ((newD 100).create an).1
theorem wkS_create : ((newD 100).create an).2 = 0 := by decide
theorem wkS_pgs : wkS.pgs an = (0, 0) := by decide
theorem wkS_fs : wkS.fs.length = 1 := by decide
def wkP (v : Value) : Pl := (((pl0 2).filled 0 (frN an 0) ok_an0).noted).put 0 (frW an 0 [7] v)
theorem wkP_fr (v : Value) : (wkP v).fr = [frW an 0 [7] v, fr0] := rfl
theorem wkP_wh (v : Value) : (wkP v).wh ⟨an, 0, ok_an0⟩ = some 0 := by
  show (if (⟨an, 0, ok_an0⟩ : PK) = pkey (frN an 0) ok_an0 then some 0 else none) = some 0
  exact if_pos rfl
theorem wkP_pages (v : Value) : pagesN (wkP v).fr an 0 = 1 := by rw [wkP_fr]; rfl
set_option maxHeartbeats 4000000 in
theorem works10_any (w : World) : Calls Try.prog 28 #[] w fun e w' => e = .returned (.bool true) ∧ w.grownBy w' none := by
  have HNEW := Lib.hid (new_ok 100 w (by omega))
  go_enter Try.func28, Try.ntmps28
  go_wp2_with fail
  refine HNEW.out.mono ?_
  rintro e w1 ⟨d, o, c, rfl, h1, g1⟩
  have HPN := Lib.hid (ponew_any h1 2 (by omega) (by omega))
  have H1 := Lib.hid h1
  have G1 := Lib.hid g1
  clear h1 g1 HNEW
  go_wp2_with fail
  refine HPN.out.mono ?_
  rintro e w2 ⟨p, g, mb, rfl, hp2, g2⟩
  have HP2 := Lib.hid hp2
  have H2 := Lib.hid (H1.out.ext g2)
  have G2 := Lib.hid (gr_none G1.out g2)
  have HPD := Lib.hid (pdisk_any hp2)
  have HPF := Lib.hid (pframes_any hp2)
  have el : (pl0 2).fr.length = 2 := rfl
  rw [el] at HPF
  clear hp2 g2 HPN H1 G1 el
  have hnq := neq_disk d
  go_wp2_with (first
    | (go_at_call 48; refine HPD.out.mono ?_; rintro e w3 ⟨rfl, rfl⟩)
    | (go_at_call 49; refine HPF.out.mono ?_; rintro e w3 ⟨rfl, rfl⟩))
  have hcr := pocreate_any H2.out HP2.out (n := an) (by simp [an]) (by simp [newD])
  rw [wkS_create] at hcr
  have HCR := Lib.hid hcr
  clear hcr HPD HPF hnq
  refine HCR.out.mono ?_
  rintro e w4 ⟨rfl, o4, c4, h4, ch4, hp4⟩
  have H4 : Hid (DI w4 w.heap.size o4 d wkS c4) := h4
  have HP4 := Lib.hid hp4
  have G4 : Hid (w.grownBy w4 none) := ch4.gr G2.out fun i hi => (H2.out.inb i hi).1
  clear h4 hp4 ch4 HCR
  have HB : Hid (OwnB (w4.alloc (.cells #[.int .u8 7] 5)) w4.heap.size (.slice (some ⟨w4.heap.size, 0, none⟩) 1 1) [7]) := own_lit w4 w4.heap.size 1 1 1 #[.int .u8 7] 5 (0, 0) (.inr (by simp)) rfl (Nat.le_refl _) (by unfold maxLen; omega) (Nat.le_refl _)
  have hpl := HP4.out.self.lt
  have hgl := HP4.out.fr.lt
  have hml := HP4.out.wh.lt
  have HWR := Lib.hid (powrite_new (H4.out.ext (gr_alloc w4 (.cells #[.int .u8 7] 5) none)) (HP4.out.ext (gr_alloc w4 (.cells #[.int .u8 7] 5) none)) (n := an) (by simp [an]) ok_an0 HB.out.rd
    (fun q e => by
      obtain ⟨q1, q2⟩ := Own.blk_lt HB.out (by omega) e
      exact ⟨q2, po_none_mk (by omega) (by omega) (by omega) rfl⟩) (by simp) (by rw [wkS_pgs]) (by omega) (by rw [wkS_pgs]; show (0 : Int) ≤ pagesN [fr0, fr0] an 0; decide) rfl (i := 0) (by show 0 < 2; omega) rfl (fun j _ hj => absurd hj (by omega)) (by omega) (by omega))
  clear hpl hgl hml
  go_wp2_with fail
  refine HWR.out.mono ?_
  rintro e w5 ⟨rfl, v5, hp5, ch5⟩
  have HP5 : Hid (PoR w5 w.heap.size o4 d p g mb (wkP v5) 1) := hp5
  have H5 := Lib.hid ((H4.out.ext (gr_alloc w4 (.cells #[.int .u8 7] 5) none)).pool (HP4.out.ext (gr_alloc w4 (.cells #[.int .u8 7] 5) none)) ch5)
  have G5 : Hid (w.grownBy w5 none) := poGr ch5 (gr_none G4.out (gr_alloc _ _ none)) HP4.out.low
  have hrd := poread_hit H5.out HP5.out (n := an) (by simp [an]) ok_an0 (by rw [wkS_pgs]) (by omega) (by rw [wkS_pgs]; show (0 : Int) < pagesN (wkP v5).fr an 0; rw [wkP_pages]; omega) (i := 0) (by rw [wkP_fr]; simp) (wkP_wh v5)
  have eb : (wkP v5).fr[0]'(by rw [wkP_fr]; simp) = frW an 0 [7] v5 := rfl
  rw [eb] at hrd
  have HRD := Lib.hid hrd
  clear hp5 ch5 HWR HB hrd eb
  go_wp2_with fail
  refine HRD.out.mono ?_
  rintro e w6 ⟨v6, rfl, b6, hp6, ch6⟩
  have HHE := Lib.hid (held_any hp6)
  have G6 : Hid (w.grownBy w6 none) := poGr ch6 G5.out HP5.out.low
  have e1 : heldN Fr.full ((wkP v5).put 0 { frW an 0 [7] v5 with used := true }).fr = 1 := rfl
  have e2 : heldN Fr.dirty ((wkP v5).put 0 { frW an 0 [7] v5 with used := true }).fr = 1 := rfl
  rw [e1, e2] at HHE
  have B6 := Lib.hid b6.rd
  have b6' : RdB w6 v6 (frW an 0 [7] v5).b := b6.rd
  obtain ⟨A6, c6, rfl⟩ := RdB.form b6'
  clear hp6 ch6 b6 b6' e1 e2 HRD HP5 H5
  go_wp2_with fail
  refine HHE.out.mono ?_
  rintro e w7 ⟨rfl, g7⟩
  obtain ⟨g8, o8, hA8, -, -, hc8⟩ := RdB.at_ (l := [7]) (B6.out.ext g7)
  obtain rfl := hA8 (by simp)
  have hc : w7.cell? ⟨g8, o8, none⟩ = some (.int .u8 7) := hc8 0 (by simp)
  have G7 := Lib.hid (gr_none G6.out g7)
  have el : (frW an 0 [7] v5).b.length = 1 := rfl
  rw [el]
  clear g7 hA8 hc8 B6 HHE el
  go_wp2
  go_ret
  exact ⟨rfl, G7.out⟩
end Go.Proofs.Ytkfokgjpeaibpaa
