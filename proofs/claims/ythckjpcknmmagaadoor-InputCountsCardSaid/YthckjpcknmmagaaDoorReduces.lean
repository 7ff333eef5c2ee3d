/-
  InputReduces: the law's walk.
-/
import Derived.Test.YthckjpcknmmagaaDoorIref
import Derived.Test.YthckjpcknmmagaaDoorWorks
namespace Go.Proofs.YthckjpcknmmagaaDoor.R
open Go.RowKit
set_option maxRecDepth 100000
set_option maxHeartbeats 400000

/-- edges as the elder texts have them. -/
def edOf (e : Go.Proofs.YthckjpcknmmagaaDoor.Ed) : Ed := ⟨e.t, e.h, e.w, e.m⟩
theorem edL_of (l : List Go.Proofs.YthckjpcknmmagaaDoor.Ed) : edL l = (l.map edOf).flatMap Ed.enc := by
  unfold edL
  rw [List.flatMap_map]
  rfl
theorem rdE_of {w : World} {v : Value} {l : List Go.Proofs.YthckjpcknmmagaaDoor.Ed} (h : Go.Proofs.YthckjpcknmmagaaDoor.RdE w v l) : RdE w v (l.map edOf) := by
  unfold Go.Proofs.YthckjpcknmmagaaDoor.RdE at h
  unfold RdE RdG
  rw [List.length_map, ← edL_of]
  exact h
set_option maxHeartbeats 2000000 in
theorem reduces_any (v : Value) (l : List Ed) (w : World) (hg : Glob w) (h : RdE w v l) :
    Calls Tryd.prog 3 #[v] w fun e w' => e = .returned (.bool true) ∧ w.grownBy w' none := by
  have hmax2 : l.length ≤ maxLen := by obtain ⟨_, _, _, _, _, _, h1, h2, _⟩ := h; omega
  unfold maxLen at hmax2
  have HW := Lib.hid fun (wx : World) (h : w.grownBy wx none) => works_any wx (hg.ext h)
  have HL := Lib.hid h
  obtain ⟨A, c, rfl⟩ := h.form
  clear h hg
  by_cases h500 : l.length ≤ 500
  · have HC := Lib.hid (copyE_any _ l w HL.out (by omega))
    have HRR := Lib.hid fun (wx : World) (h : w.grownBy wx none) => reduceR_any _ l wx (HL.out.ext h) (by omega)
    go_enter Tryd.func3, Tryd.ntmps3
    go_wp2_with fail
    refine HC.out.mono ?_
    rintro e w1 ⟨⟨u1, rfl, ho1⟩, g1⟩
    obtain ⟨A1, c1, rfl⟩ := ho1.rd.form
    have G1 := Lib.hid g1
    have HR1 := Lib.hid ho1.rd
    have HRD := Lib.hid (reduce_any _ l w1 ho1.rd (by omega))
    clear ho1 g1
    go_wp2_with fail
    refine HRD.out.mono ?_
    rintro e w2 ⟨⟨u2, r, rfl, ho2, ht2, hl2⟩, g2⟩
    obtain ⟨A2, c2, rfl⟩ := ho2.rd.form
    have G2 := Lib.hid g2
    have HO2 := Lib.hid ho2
    have HT := Lib.hid ht2
    have HR3 := Lib.hid (HRR.out w2 (gr_none G1.out G2.out))
    clear ho2 g2 ht2
    go_wp2_with fail
    refine HR3.out.mono ?_
    rintro e w3 ⟨⟨u3, rfl, ho3⟩, g3⟩
    obtain ⟨A3, c3, rfl⟩ := ho3.rd.form
    have e3 : redL l = r := (redL_top l).same HT.out
    have G3 := Lib.hid (gr_none G2.out g3)
    have HO3 := Lib.hid (HO2.out.ext g3)
    rw [e3] at ho3
    have HQ3 := Lib.hid (eqE_any _ _ _ _ w3 HO3.out.rd ho3.rd (by omega) (by omega))
    rw [e3]
    clear ho3 g3 e3
    go_wp2_with fail
    refine HQ3.out.mono ?_
    rintro e w4 ⟨⟨b, rfl, hb⟩, g4⟩
    obtain rfl : b = true := by first | exact hb.2 rfl | exact hb.2 trivial
    have G4 := Lib.hid (gr_none G3.out g4)
    have HO4 := Lib.hid (HO3.out.ext g4)
    have HQ4 := Lib.hid (eqE_any _ _ _ _ w4 (HR1.out.ext G4.out) (HL.out.ext (gr_none G1.out G4.out)) (by omega) (by omega))
    clear hb g4
    go_wp2_with fail
    refine HQ4.out.mono ?_
    rintro e w5 ⟨⟨b, rfl, hb⟩, g5⟩
    obtain rfl : b = true := by first | exact hb.2 rfl | exact hb.2 trivial
    have G5 := Lib.hid (gr_none G4.out g5)
    have HO5 := Lib.hid (HO4.out.ext g5)
    have hz5 : w1.heap.size ≤ w5.heap.size := G5.out.size
    clear hb g5
    go_wp2_with (at_builtin; refine wp_app1E ⟨77, 0, 0, 0⟩ _ rfl rfl (.tmp 25) (.tmp 27) rfl rfl HO5.out w5.heap.size rfl rfl (by omega) hz5 ?_; intro v7 w7 h7 g7 a7; have G7 : Hid (w5.grownBy w7 (Value.slice A2 r.length c2).ownBlock) := g7; clear g7 a7; have e7 := h7.rd.form; rw [List.length_append] at e7; obtain ⟨A9, c9, rfl⟩ := e7; have H7 := Lib.hid h7; clear h7)
    have e1L : [(⟨77, 0, 0, 0⟩ : Ed)].length = 1 := rfl
    rw [e1L] at H7
    obtain ⟨g9, off9, rfl⟩ := OwnE.base H7.out (by simp)
    have HLB9 : Hid (w1.heap.size ≤ g9) := H7.out.lt g9 rfl
    have GW7 : Hid (w1.grownBy w7 none) := by
      refine gr_trans G5.out G7.out ?_
      cases hv : (Value.slice A2 r.length c2).ownBlock with
      | none => exact .inl rfl
      | some q => exact .inr fun q' e => by cases e; exact HO5.out.lt _ hv
    go_wp2
    go_loopw [5] (fun i wq => ∃ (k : Nat) (ls : List Ed), k ≤ r.length + 1 ∧ i = .int .i64 k ∧ ls.length = r.length + 1 ∧ Hid (OwnE wq w1.heap.size (.slice (some ⟨g9, off9, none⟩) (r.length + 1) c9) ls) ∧ w1.grownBy wq none) (fun i _ => r.length + 1 - (intOf i).toNat)
    case atStart => exact ⟨0, _, by omega, rfl, by simp, H7, GW7.out⟩
    case round =>
      obtain ⟨k, ls, hk, rfl, hls, ho, hg⟩ := hrel
      by_cases hlt : k < r.length + 1
      · rcases hy : ls[k] with ⟨ya, yb, yc, yd⟩
        obtain ⟨⟨d0, d1, d2, d3⟩, f0, f1, f2, f3⟩ := OwnE.at8 ho.out (k := k) (by omega) hy
        have HS := Lib.hid (OwnE.set ho.out rfl (i := k) (by omega) ⟨0, 99, 0, 0⟩)
        clear hy ho
        go_wp2
        go_roundw
        case rel => exact ⟨k + 1, ls.set k ⟨0, 99, 0, 0⟩, by omega, by go_num, by rw [List.length_set]; exact hls, HS, gr_trans hg (gr_set4 _ _ _ ⟨0, 99, 0, 0⟩) (.inr fun q e => by cases e; exact HLB9.out)⟩
        case measure => simp [intOf]; omega
      · obtain rfl : k = r.length + 1 := by omega
        have G8 := Lib.hid hg
        have HQ8 := Lib.hid (eqE_any _ _ _ _ wr (HR1.out.ext G8.out) (HL.out.ext (gr_none G1.out G8.out)) (by omega) (by omega))
        clear ho hg
        go_wp2_with fail
        refine HQ8.out.mono ?_
        rintro e w9 ⟨⟨b, rfl, hb⟩, g9⟩
        obtain rfl : b = true := by first | exact hb.2 rfl | exact hb.2 trivial
        have G9 := Lib.hid (gr_none G1.out (gr_none G8.out g9))
        clear hb g9
        go_wp2_with fail
        refine (HW.out _ G9.out).mono ?_
        rintro e w10 ⟨rfl, g10⟩
        have G10 := Lib.hid (gr_none G9.out g10)
        clear g10
        go_wp2
        go_ret
        exact ⟨rfl, G10.out⟩
  · have hgt : 500 < l.length := by omega
    go_enter Tryd.func3, Tryd.ntmps3
    go_wp2_with fail
    refine (HW.out _ (gr_refl _ _)).mono ?_
    rintro e w1 ⟨rfl, g1⟩
    have G1 := Lib.hid g1
    clear g1
    go_wp2
    go_ret
    exact ⟨rfl, G1.out⟩
end Go.Proofs.YthckjpcknmmagaaDoor.R
namespace Go.Proofs.YthckjpcknmmagaaDoor
theorem reduces_any (v : Value) (l : List Ed) (w : World) (hg : Glob w) (h : RdE w v l) :
    Calls Tryd.prog 3 #[v] w fun e w' => e = .returned (.bool true) ∧ w.grownBy w' none := R.reduces_any v _ w hg (R.rdE_of h)
end Go.Proofs.YthckjpcknmmagaaDoor
