/-
  Hub: the walk of HubPrunes.
-/
import Derived.Test.YtfgkmimhibpceaaHl2
namespace Go.Proofs.Ytfgkmimhibpceaa
open Go.RowKit
set_option maxRecDepth 100000
set_option maxHeartbeats 400000

set_option maxHeartbeats 8000000 in
theorem hubPrunes_any (lv sv : Value) (l : List Lb) (all : List Ow) (w : World) (h : RdL w lv l) (hS : RdS w sv all) :
    Calls Try.prog 4 #[lv, sv] w fun e w' => e = .returned (.bool true) ∧ w.grownBy w' none := by
  have hmax2 : l.length ≤ maxLen := by obtain ⟨_, _, _, _, _, _, h1, h2, _⟩ := h; omega
  unfold maxLen at hmax2
  have HW := Lib.hid works_any
  have HLG := Lib.hid (large_any sv all w hS)
  have HL := Lib.hid h
  have HS := Lib.hid hS
  obtain ⟨AL, cL, rfl⟩ := h.form
  obtain ⟨AS, cS, rfl⟩ := hS.1.form
  clear h hS
  by_cases h100 : l.length ≤ 100
  · go_enter Try.func4, Try.ntmps4
    go_wp2_with fail
    refine HLG.out.mono ?_
    rintro e w1 ⟨⟨b, rfl, hb⟩, g1⟩
    have G1 := Lib.hid g1
    have HB := Lib.hid hb
    clear hb g1
    cases b
    · obtain ⟨ha, hm⟩ := large_len (HB.out rfl)
      have HM := Lib.hid hm
      clear hm
      have HCP := Lib.hid fun (wx : World) (hg : w.grownBy wx none) => copied_any _ l wx (HL.out.ext hg) (by omega)
      have HPR := Lib.hid fun (wx : World) (hg : w.grownBy wx none) (u : Value) (sp : Nat) (hu : RdL wx u l) (hs : wx.cell? ⟨sp, 0, none⟩ = some (.slice AS all.length cS)) => prune_of sp _ all u l wx hu (by omega) hs (HS.out.ext hg) ha HM.out
      have HRP := Lib.hid fun (wx : World) (hg : w.grownBy wx none) => pruner_any _ _ l all wx (HL.out.ext hg) (HS.out.ext hg) (by omega) ha HM.out
      have HP0 := Lib.hid fun (wx : World) (u : Value) (hu : RdL wx u l) => prune_0 u l wx hu (by omega)
      have HEE := Lib.hid fun (wx : World) (hg : w.grownBy wx none) (u : Value) (hu : RdL wx u l) => eqL_any u _ l l wx hu (HL.out.ext hg) (by omega) (by omega)
      have HRA := Lib.hid fun (wx : World) (u : Value) (hu : RdL wx u l) => right_any u l wx hu (by omega)
      have HRB := Lib.hid fun (wx : World) (hg : w.grownBy wx none) => rightr_any _ l wx (HL.out.ext hg) (by omega)
      have hF0 : (l.filter fun y => !goneR l (ofS all) y).length ≤ 100 := Nat.le_trans (List.length_filter_le _ _) h100
      generalize (l.filter fun y => !goneR l (ofS all) y) = F at *
      go_wp2_with fail
      have G2 : Hid (w.grownBy (w1.alloc (.cells #[.slice AS all.length cS] 29)) none) := gr_none G1.out (gr_alloc _ _ _)
      have HSP : Hid ((w1.alloc (.cells #[.slice AS all.length cS] 29)).cell? ⟨w1.heap.size, 0, none⟩ = some (.slice AS all.length cS)) := by show _ = _; rw [cell_new]; rfl
      have HC2 := Lib.hid (HCP.out _ G2.out)
      refine HC2.out.mono ?_
      rintro e w3 ⟨⟨u3, rfl, ho3⟩, g3⟩
      obtain ⟨A3, c3, rfl⟩ := ho3.rd.form
      have G3 := Lib.hid (gr_none G2.out g3)
      have HR3 := Lib.hid ho3.rd
      have HA3 := Lib.hid (HPR.out w3 G3.out _ w1.heap.size ho3.rd (g3.cell HSP.out (by simp)))
      clear ho3 g3
      go_wp2_with fail
      refine HA3.out.mono ?_
      rintro e w4 ⟨⟨u4, rfl, ho4⟩, g4⟩
      obtain ⟨A4, c4, rfl⟩ := ho4.rd.form
      have G34 := Lib.hid g4
      have HO4 := Lib.hid ho4
      have HB4 := Lib.hid (HRP.out w4 (gr_none G3.out g4))
      clear ho4 g4
      go_wp2_with fail
      refine HB4.out.mono ?_
      rintro e w5 ⟨⟨u5, rfl, ho5⟩, g5⟩
      obtain ⟨A5, c5, rfl⟩ := ho5.rd.form
      have G35 := Lib.hid (gr_none G34.out g5)
      have HO5 := Lib.hid (HO4.out.ext g5)
      have HQ5 := Lib.hid (eqL_any _ _ _ _ w5 HO5.out.rd ho5.rd (by omega) (by omega))
      clear ho5 g5
      go_wp2_with fail
      refine HQ5.out.mono ?_
      rintro e w6 ⟨⟨b, rfl, hb⟩, g6⟩
      obtain rfl : b = true := by first | exact hb.2 rfl | exact hb.2 trivial
      have G36 := Lib.hid (gr_none G35.out g6)
      have HO6 := Lib.hid (HO5.out.ext g6)
      have HQ6 := Lib.hid (HEE.out w6 (gr_none G3.out G36.out) _ (HR3.out.ext G36.out))
      clear hb g6
      go_wp2_with fail
      refine HQ6.out.mono ?_
      rintro e w7 ⟨⟨b, rfl, hb⟩, g7⟩
      obtain rfl : b = true := by first | exact hb.2 rfl | exact hb.2 trivial
      have G37 := Lib.hid (gr_none G36.out g7)
      have HO7 := Lib.hid (HO6.out.ext g7)
      have HQ7 := Lib.hid (HRA.out w7 _ (HR3.out.ext G37.out))
      clear hb g7
      go_wp2_with fail
      refine HQ7.out.mono ?_
      rintro e w8 ⟨⟨b, rfl, hb⟩, g8⟩
      have HBB := Lib.hid hb
      have G38 := Lib.hid (gr_none G37.out g8)
      have HO8 := Lib.hid (HO7.out.ext g8)
      have HQ8 := Lib.hid (HRB.out w8 (gr_none G3.out G38.out))
      clear hb g8
      go_wp2_with fail
      refine HQ8.out.mono ?_
      rintro e w9 ⟨⟨b', rfl, hb'⟩, g9⟩
      obtain rfl : b' = b := by rw [Bool.eq_iff_iff]; exact hb'.trans HBB.out.symm
      have G39 := Lib.hid (gr_none G38.out g9)
      have HO9 := Lib.hid (HO8.out.ext g9)
      have HQ9 := Lib.hid (HP0.out w9 _ (HR3.out.ext G39.out))
      clear hb' g9
      have hbb : (b' != b') = false := by cases b' <;> rfl
      go_wp2_with fail
      refine HQ9.out.mono ?_
      rintro e w10 ⟨⟨u10, rfl, ho10⟩, g10⟩
      obtain ⟨A10, c10, rfl⟩ := ho10.rd.form
      have G310 := Lib.hid (gr_none G39.out g10)
      have HO10 := Lib.hid (HO9.out.ext g10)
      have HQ10 := Lib.hid (HEE.out w10 (gr_none G3.out G310.out) _ ho10.rd)
      clear ho10 g10
      go_wp2_with fail
      refine HQ10.out.mono ?_
      rintro e w11 ⟨⟨b, rfl, hb⟩, g11⟩
      obtain rfl : b = true := by first | exact hb.2 rfl | exact hb.2 trivial
      have G311 := Lib.hid (gr_none G310.out g11)
      have HO11 := Lib.hid (HO10.out.ext g11)
      have hz11 := G311.out.size
      clear hb g11
      go_wp2_with (at_builtin; refine wp_app1L ⟨7, 0, 0⟩ _ rfl rfl (.tmp 52) (.tmp 54) rfl rfl HO11.out w11.heap.size rfl rfl (by omega) hz11 ?_; intro v12 w12 h12 g12 a12; have e12 := h12.rd.form; rw [List.length_append] at e12; obtain ⟨A12, c12, rfl⟩ := e12; have G312 : Hid (w3.grownBy w12 none) := gr_trans G311.out g12 (.inr HO11.out.lt); have HO12 := Lib.hid h12; clear h12 g12 a12)
      have e1 : [(⟨7, 0, 0⟩ : Lb)].length = 1 := rfl
      rw [e1] at HO12
      obtain ⟨g9, off9, rfl⟩ := OwnL.base HO12.out (by simp)
      go_loopw [8] (fun i wr => ∃ (k : Nat) (m : List Lb), k ≤ F.length + 1 ∧ i = .int .i64 k ∧ m.length = F.length + 1 ∧ Hid (OwnL wr w3.heap.size (.slice (some ⟨g9, off9, none⟩) (F.length + 1) c12) m) ∧ w3.grownBy wr none) (fun i _ => F.length + 1 - (intOf i).toNat)
      case atStart => exact ⟨0, F ++ [⟨7, 0, 0⟩], by omega, rfl, by simp, HO12, G312⟩
      case round =>
        obtain ⟨k, m, hk, rfl, hml, ho, hg⟩ := hrel
        by_cases hlt : k < F.length + 1
        · have hkm : k < m.length := by omega
          rcases hq : m[k] with ⟨qa, qb, qd⟩
          obtain ⟨⟨q0, q1, q2⟩, f0, f1, f2⟩ := OwnL.at6 ho.out hkm hq
          have HS9 := Lib.hid (OwnL.set ho.out rfl hkm ⟨0, 0, 9⟩)
          have HG9 : Hid (w3.grownBy (((wr.setCell ⟨g9, off9 + k * 3, none⟩ (.int .u32 (0 : UInt32).toNat)).setCell ⟨g9, off9 + k * 3 + 1, none⟩ (.int .u32 (0 : UInt32).toNat)).setCell ⟨g9, off9 + k * 3 + 2, none⟩ (.int .u64 (9 : UInt64).toNat)) none) := gr_trans hg (gr_set3 _ _ _ _ _ _ _ _) (.inr fun q e => by cases e; exact ho.out.lt _ rfl)
          have hml2 : (m.set k ⟨0, 0, 9⟩).length = F.length + 1 := by rw [List.length_set]; exact hml
          have HM2 := Lib.hid hml2
          clear hq ho hg hml hml2 hkm
          generalize m.set k ⟨0, 0, 9⟩ = m2 at *
          go_wp2
          go_roundw
          case rel => exact ⟨k + 1, m2, by omega, by go_num, HM2.out, HS9, HG9.out⟩
          case measure => simp [intOf]; omega
        · have hke : k = F.length + 1 := by omega
          have GR := Lib.hid (gr_none G3.out hg)
          have HQR := Lib.hid (HEE.out wr GR.out _ (HR3.out.ext hg))
          clear hml ho hg
          subst hke
          go_wp2_with fail
          refine HQR.out.mono ?_
          rintro e w13 ⟨⟨b, rfl, hb⟩, g13⟩
          obtain rfl : b = true := by first | exact hb.2 rfl | exact hb.2 trivial
          have G13 := Lib.hid (gr_none GR.out g13)
          clear hb g13
          go_wp2_with fail
          refine (HW.out _).mono ?_
          rintro e w14 ⟨rfl, g14⟩
          have G14 := Lib.hid (gr_none G13.out g14)
          clear g14
          go_wp2
          go_ret
          exact ⟨rfl, G14.out⟩
    · go_wp2_with fail
      refine (HW.out _).mono ?_
      rintro e w3 ⟨rfl, g3⟩
      have G3 := Lib.hid (gr_none G1.out g3)
      clear g3
      go_wp2
      go_ret
      exact ⟨rfl, G3.out⟩
  · have hgt : 100 < l.length := by omega
    go_enter Try.func4, Try.ntmps4
    go_wp2_with fail
    refine HLG.out.mono ?_
    rintro e w1 ⟨⟨b, rfl, hb⟩, g1⟩
    have G1 := Lib.hid g1
    clear hb g1
    cases b
    all_goals
      go_wp2_with fail
      refine (HW.out _).mono ?_
      rintro e w3 ⟨rfl, g3⟩
      have G3 := Lib.hid (gr_none G1.out g3)
      clear g3
      go_wp2
      go_ret
      exact ⟨rfl, G3.out⟩
end Go.Proofs.Ytfgkmimhibpceaa
