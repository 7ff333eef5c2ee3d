/-
  Hub: the walk of HubAgain.
-/
import Derived.Test.YtfgkmimhibpceaaHl2
namespace Go.Proofs.Ytfgkmimhibpceaa
open Go.RowKit
set_option maxRecDepth 100000
set_option maxHeartbeats 400000

theorem gone_sub {l m : List Lb} (h : ∀ x ∈ m, x ∈ l) {of : UInt32 → List Lb} {x : Lb} (hg : goneR l of x = false) : goneR m of x = false := by
  unfold goneR at *
  rw [List.any_eq_false] at *
  exact fun a ha => hg a (h a ha)
theorem prune_again (l : List Lb) (of : UInt32 → List Lb) : (l.filter fun y => !goneR l of y).filter (fun y => !goneR (l.filter fun y => !goneR l of y) of y) = l.filter fun y => !goneR l of y := by
  refine List.filter_eq_self.2 fun x hx => ?_
  have h1 := (List.mem_filter.1 hx).2
  rw [Bool.not_eq_true'] at h1
  rw [Bool.not_eq_true']
  exact gone_sub (fun y hy => (List.mem_filter.1 hy).1) h1
theorem sub_eq {a : List Lb} {x : Lb} {xs : List Lb} (h : (x :: a).Sublist (x :: xs)) : a.Sublist xs := List.Sublist.of_cons_cons h
theorem sub_ne {y x : Lb} {a xs : List Lb} (h : (y :: a).Sublist (x :: xs)) (hne : ¬ x = y) : (y :: a).Sublist xs := by
  cases h with
  | cons _ h => exact h
  | cons_cons _ h => exact absurd rfl hne
set_option maxHeartbeats 8000000 in
theorem hubAgain_any (lv sv : Value) (l : List Lb) (all : List Ow) (w : World) (h : RdL w lv l) (hS : RdS w sv all) :
    Calls Try.prog 10 #[lv, sv] w fun e w' => e = .returned (.bool true) ∧ w.grownBy w' none := by
  have hmax2 : l.length ≤ maxLen := by obtain ⟨_, _, _, _, _, _, h1, h2, _⟩ := h; omega
  unfold maxLen at hmax2
  have HW := Lib.hid works_any
  have HLG := Lib.hid (large_any sv all w hS)
  have HL := Lib.hid h
  have HS := Lib.hid hS
  obtain ⟨AL, cL, rfl⟩ := h.form
  obtain ⟨AS, cS, rfl⟩ := hS.1.form
  obtain ⟨g, off, hA, _, hcells⟩ := h.at_ lb3
  have HA := Lib.hid hA
  have HC := Lib.hid hcells
  clear h hS hA hcells
  by_cases h60 : l.length ≤ 60
  · go_enter Try.func10, Try.ntmps10
    go_wp2_with fail
    refine HLG.out.mono ?_
    rintro e w1 ⟨⟨b, rfl, hb⟩, g1⟩
    have G1 := Lib.hid g1
    have HB := Lib.hid hb
    clear hb g1
    cases b
    · obtain ⟨ha, hm⟩ := large_len (HB.out rfl)
      have HM := Lib.hid hm
      clear hm
      have HPR := Lib.hid fun (wx : World) (hg : w.grownBy wx none) (m : List Lb) (hml : m.length ≤ 60) (u : Value) (sp : Nat) (hu : RdL wx u m) (hs : wx.cell? ⟨sp, 0, none⟩ = some (.slice AS all.length cS)) => prune_of sp _ all u m wx hu (by omega) hs (HS.out.ext hg) ha HM.out
      have HPL := Lib.hid fun (wx : World) (hg : w.grownBy wx none) (sp : Nat) (hs : wx.cell? ⟨sp, 0, none⟩ = some (.slice AS all.length cS)) => HPR.out wx hg l h60 _ sp (HL.out.ext hg) hs
      have HPF := Lib.hid fun (wx : World) (hg : w.grownBy wx none) (hl : (l.filter fun y => !goneR l (ofS all) y).length ≤ 60) (u : Value) (sp : Nat) (hu : RdL wx u (l.filter fun y => !goneR l (ofS all) y)) (hs : wx.cell? ⟨sp, 0, none⟩ = some (.slice AS all.length cS)) => HPR.out wx hg (l.filter fun y => !goneR l (ofS all) y) hl u sp hu hs
      have hF0 : (l.filter fun y => !goneR l (ofS all) y).length ≤ l.length := List.length_filter_le _ _
      have HSU : Hid ((l.filter fun y => !goneR l (ofS all) y).Sublist l) := List.filter_sublist
      rw [prune_again] at HPF
      generalize (l.filter fun y => !goneR l (ofS all) y) = F at *
      have hF1 : ¬ l.length < F.length := by omega
      go_wp2_with fail
      have G2 : Hid (w.grownBy (w1.alloc (.cells #[.slice AS all.length cS] 29)) none) := gr_none G1.out (gr_alloc _ _ _)
      have HSP : Hid ((w1.alloc (.cells #[.slice AS all.length cS] 29)).cell? ⟨w1.heap.size, 0, none⟩ = some (.slice AS all.length cS)) := by show _ = _; rw [cell_new]; rfl
      have HA3 := Lib.hid (HPL.out _ G2.out w1.heap.size HSP.out)
      refine HA3.out.mono ?_
      rintro e w4 ⟨⟨u4, rfl, ho4⟩, g4⟩
      obtain ⟨A4, c4, rfl⟩ := ho4.rd.form
      have G4 := Lib.hid (gr_none G2.out g4)
      have HO4 := Lib.hid ho4.rd
      have HB4 := Lib.hid (HPF.out w4 G4.out (by omega) _ w1.heap.size ho4.rd (g4.cell HSP.out (by simp)))
      obtain ⟨g9, off9, hA9, _, hc9⟩ := HO4.out.at_ lb3
      have HA9 := Lib.hid hA9
      have HC9 := Lib.hid hc9
      clear ho4 g4 hA9 hc9
      go_wp2_with fail
      refine HB4.out.mono ?_
      rintro e w5 ⟨⟨u5, rfl, ho5⟩, g5⟩
      obtain ⟨A5, c5, rfl⟩ := ho5.rd.form
      have G45 := Lib.hid g5
      have HQ5 := Lib.hid (eqL_any _ _ _ _ w5 (HO4.out.ext g5) ho5.rd (by omega) (by omega))
      clear ho5 g5
      go_wp2_with fail
      refine HQ5.out.mono ?_
      rintro e w6 ⟨⟨b, rfl, hb⟩, g6⟩
      obtain rfl : b = true := by first | exact hb.2 rfl | exact hb.2 trivial
      have G46 := Lib.hid (gr_none G45.out g6)
      clear hb g6
      go_wp2
      go_loopw [8, 7] (fun i t wr => ∃ (k j : Nat), k ≤ l.length ∧ j ≤ F.length ∧ i = .int .i64 k ∧ t = .int .i64 j ∧ (F.drop j).Sublist (l.drop k) ∧ w4.grownBy wr none) (fun i _ _ => l.length - (intOf i).toNat)
      case atStart => exact ⟨0, 0, by omega, by omega, rfl, rfl, by simpa using HSU.out, G46.out⟩
      case round =>
        obtain ⟨k, j, hk, hj, rfl, rfl, hsub, hg⟩ := hrel
        by_cases hlt : k < l.length
        · have := HA.out (by omega)
          subst this
          rcases hx : l[k] with ⟨xa, xb, xc⟩
          obtain ⟨c0, c1, c2⟩ := at3L HC.out (gr_none G4.out hg) hlt hx
          by_cases hjl : j < F.length
          · have := HA9.out (by omega)
            subst this
            rcases hy : F[j] with ⟨ya, yb, yc⟩
            obtain ⟨d0, d1, d2⟩ := at3L HC9.out hg hjl hy
            rw [List.drop_eq_getElem_cons hlt, List.drop_eq_getElem_cons hjl, hx, hy] at hsub
            have HSB := Lib.hid hsub
            have HY := Lib.hid hy
            have heq := run_eqlL ⟨xa, xb, xc⟩ ⟨ya, yb, yc⟩
            have HIF := Lib.hid (lbEq_iff ⟨xa, xb, xc⟩ ⟨ya, yb, yc⟩)
            simp only [Lb.v] at heq
            clear hx hy hsub
            generalize lbEq ⟨xa, xb, xc⟩ ⟨ya, yb, yc⟩ = B at *
            cases B
            · have HN : Hid ((F.drop j).Sublist (l.drop (k + 1))) := by
                show List.Sublist _ _
                rw [List.drop_eq_getElem_cons hjl, HY.out]
                exact sub_ne HSB.out (fun e => by have := HIF.out.2 e; simp at this)
              go_wp2_with fail
              go_quiet (fail)
              go_wp2
              go_roundw
              case rel => exact ⟨k + 1, j, by omega, by omega, by go_num, rfl, HN.out, gr_none hg (gr_drewN _ _ _)⟩
              case measure => simp [intOf]; omega
            · have HN : Hid ((F.drop (j + 1)).Sublist (l.drop (k + 1))) := by
                have e := HIF.out.1 (by first | rfl | trivial)
                have h1 := HSB.out
                rw [e] at h1
                exact sub_eq h1
              go_wp2_with fail
              go_quiet (fail)
              go_wp2
              go_roundw
              case rel => exact ⟨k + 1, j + 1, by omega, by omega, by go_num, by go_num, HN.out, gr_none hg (gr_drewN _ _ _)⟩
              case measure => simp [intOf]; omega
          · have HN : Hid ((F.drop j).Sublist (l.drop (k + 1))) := by
              show List.Sublist _ _
              rw [List.drop_eq_nil_of_le (by omega)]; exact List.nil_sublist _
            clear hx hsub
            go_wp2_with fail
            go_quiet (fail)
            go_wp2
            go_roundw
            case rel => exact ⟨k + 1, j, by omega, by omega, by go_num, rfl, HN.out, gr_none hg (gr_drewN _ _ _)⟩
            case measure => simp [intOf]; omega
        · have hje : j = F.length := by
            rw [List.drop_eq_nil_of_le (show l.length ≤ k by omega)] at hsub
            have := List.eq_nil_of_sublist_nil hsub
            have := List.drop_eq_nil_iff.1 this
            omega
          have GR := Lib.hid (gr_none G4.out hg)
          clear hsub hg
          subst hje
          go_wp2_with fail
          refine (HW.out _).mono ?_
          rintro e w14 ⟨rfl, g14⟩
          have G14 := Lib.hid (gr_none GR.out g14)
          clear g14
          go_wp2
          go_ret
          exact ⟨rfl, G14.out⟩
    · go_wp2_with fail
      refine (HW.out _).mono ?_
      rintro e w3 ⟨rfl, g3⟩
      have G3 := Lib.hid (gr_none G1.out g3)
      clear g3
      go_wp2
      go_ret
      exact ⟨rfl, G3.out⟩
  · have hgt : 60 < l.length := by omega
    go_enter Try.func10, Try.ntmps10
    go_wp2_with fail
    refine (HW.out _).mono ?_
    rintro e w3 ⟨rfl, g3⟩
    have G3 := Lib.hid g3
    clear g3
    go_wp2
    go_ret
    exact ⟨rfl, G3.out⟩
end Go.Proofs.Ytfgkmimhibpceaa
