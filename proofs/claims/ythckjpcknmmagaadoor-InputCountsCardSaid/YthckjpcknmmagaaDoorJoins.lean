/-
  InputJoins: the law's walk.
-/
import Derived.Test.YthckjpcknmmagaaDoorReduces
namespace Go.Proofs.YthckjpcknmmagaaDoor.R
open Go.RowKit
set_option maxRecDepth 100000
set_option maxHeartbeats 400000

/-- append to a list of the call's own leaves all that was there ahead of the call. -/
theorem gr_app {w0 w w' : World} {B s n : Nat} {v : Value} {xs : List Value} (h0 : w0.grownBy w none) (ho : Go.Proofs.YthckjpcknmmagaaDoor.Own w B s v n xs) (hB : w0.heap.size ≤ B) (hg : w.grownBy w' v.ownBlock) : w0.grownBy w' none := by
  refine gr_trans h0 hg ?_
  cases hv : v.ownBlock with
  | none => exact .inl rfl
  | some q => exact .inr fun q' e => by cases e; exact Nat.le_trans hB (ho.lt _ hv)
set_option maxHeartbeats 2000000 in
theorem joins_any (v v' : Value) (l m : List Ed) (w : World) (hg : Glob w) (h : RdE w v l) (h' : RdE w v' m) :
    Calls Tryd.prog 5 #[v, v'] w fun e w' => e = .returned (.bool true) ∧ w.grownBy w' none := by
  have hmax2 : l.length ≤ maxLen := by obtain ⟨_, _, _, _, _, _, h1, h2, _⟩ := h; omega
  have hmax3 : m.length ≤ maxLen := by obtain ⟨_, _, _, _, _, _, h1, h2, _⟩ := h'; omega
  unfold maxLen at hmax2 hmax3
  have HW := Lib.hid fun (wx : World) (h : w.grownBy wx none) => works_any wx (hg.ext h)
  have HL := Lib.hid h
  have HM := Lib.hid h'
  obtain ⟨A, c, rfl⟩ := h.form
  obtain ⟨A', c', rfl⟩ := h'.form
  clear h h' hg
  by_cases hl : l.length ≤ 150
  · by_cases hm : m.length ≤ 150
    · go_enter Tryd.func5, Tryd.ntmps5
      go_wp2_with (first
        | (at_builtin; refine wp_appE (l := []) rfl (.tmp 16) (.tmp 17) rfl rfl (OwnG.nil _ _ _ w.heap.size) rfl HL.out (by simp; omega) (Nat.le_refl _) ?_; intro v1 w1 h1 g1 a1; have G1 : Hid (w.grownBy w1 none) := g1; have H1 : Hid (OwnE w1 w.heap.size v1 l) := h1; clear h1 g1 a1; obtain ⟨A1, c1, rfl⟩ := (OwnG.rd H1.out).form)
        | (at_builtin; refine wp_appE (l := l) rfl (.tmp 19) (.tmp 20) rfl rfl H1.out rfl (HM.out.ext G1.out) (by omega) G1.out.size ?_; intro v2 w2 h2 g2 a2; have G2 : Hid (w.grownBy w2 none) := gr_app G1.out H1.out (Nat.le_refl _) g2; have hA2 : RdE w2 v2 (l ++ m) := OwnG.rd h2; clear h2 g2 a2; have hLM2 : (l ++ m).length ≤ 300 := (by rw [List.length_append]; omega); generalize hLM : l ++ m = LM at hA2 hLM2; have HLM := Lib.hid hLM; have HA2 := Lib.hid hA2; clear hLM hA2; obtain ⟨A2, c2, rfl⟩ := HA2.out.form))
      have HR2 := Lib.hid (reduce_any _ l w2 (HL.out.ext G2.out) (by omega))
      go_wp2_with fail
      refine HR2.out.mono ?_
      rintro e w3 ⟨⟨u3, r1, rfl, ho3, ht3, hl3⟩, g3⟩
      have G3 := Lib.hid g3
      obtain ⟨A3, c3, rfl⟩ := ho3.rd.form
      have HRD3 := Lib.hid ho3.rd
      have HT1 := Lib.hid ht3
      clear ho3 g3 ht3
      go_wp2_with (at_builtin; refine wp_appE (l := []) rfl (.tmp 22) (.tmp 24) rfl rfl (OwnG.nil _ _ _ w2.heap.size) rfl HRD3.out (by simp; omega) G3.out.size ?_; intro v4 w4 h4 g4 a4; have G4 : Hid (w2.grownBy w4 none) := gr_none G3.out g4; have H4 : Hid (OwnE w4 w2.heap.size v4 r1) := h4; clear h4 g4 a4; obtain ⟨A4, c4, rfl⟩ := (OwnG.rd H4.out).form)
      have HR4 := Lib.hid (reduce_any _ m w4 (HM.out.ext (gr_none G2.out G4.out)) (by omega))
      go_wp2_with fail
      refine HR4.out.mono ?_
      rintro e w5 ⟨⟨u5, r2, rfl, ho5, ht5, hl5⟩, g5⟩
      have G5 := Lib.hid (gr_none G4.out g5)
      have H5 := Lib.hid (OwnG.ext H4.out g5)
      obtain ⟨A5, c5, rfl⟩ := ho5.rd.form
      have HRD5 := Lib.hid ho5.rd
      have HT2 := Lib.hid ht5
      clear ho5 g5 ht5
      go_wp2_with (at_builtin; refine wp_appE (l := r1) rfl (.tmp 26) (.tmp 28) rfl rfl H5.out rfl HRD5.out (by omega) G5.out.size ?_; intro v6 w6 h6 g6 a6; have G6 : Hid (w2.grownBy w6 none) := gr_app G5.out H5.out (Nat.le_refl _) g6; have hL6 : RdE w6 v6 (r1 ++ r2) := OwnG.rd h6; clear h6 g6 a6; have hR12 : (r1 ++ r2).length ≤ 300 := (by rw [List.length_append]; omega); generalize hRR : r1 ++ r2 = RR at hL6 hR12; have HRR := Lib.hid hRR; have HL6 := Lib.hid hL6; clear hRR hL6; obtain ⟨A6, c6, rfl⟩ := HL6.out.form)
      have HR6 := Lib.hid (reduce_any _ LM w6 (HA2.out.ext G6.out) (by omega))
      go_wp2_with fail
      refine HR6.out.mono ?_
      rintro e w7 ⟨⟨u7, r3, rfl, ho7, ht7, hl7⟩, g7⟩
      have G7 := Lib.hid g7
      obtain ⟨A7, c7, rfl⟩ := ho7.rd.form
      have HRD7 := Lib.hid ho7.rd
      have HT3 := Lib.hid ht7
      have HR7 := Lib.hid (reduce_any _ RR w7 (HL6.out.ext g7) (by omega))
      clear ho7 g7 ht7
      go_wp2_with fail
      refine HR7.out.mono ?_
      rintro e w8 ⟨⟨u8, r4, rfl, ho8, ht8, hl8⟩, g8⟩
      have e8 : r4 = r3 := (Top.join HT1.out HT2.out (by rw [HRR.out]; exact ht8)).same (by rw [HLM.out]; exact HT3.out)
      rw [e8] at ho8
      clear e8
      have G8 := Lib.hid (gr_none G2.out (gr_none G6.out (gr_none G7.out g8)))
      obtain ⟨A8, c8, rfl⟩ := ho8.rd.form
      have HQ8 := Lib.hid (eqE_any _ _ _ _ w8 (HRD7.out.ext g8) ho8.rd (by omega) (by omega))
      clear ho8 g8 ht8 hl8
      go_wp2_with fail
      refine HQ8.out.mono ?_
      rintro e w9 ⟨⟨b, rfl, hb⟩, g9⟩
      obtain rfl : b = true := by first | exact hb.2 rfl | exact hb.2 trivial
      have G9 := Lib.hid (gr_none G8.out g9)
      clear hb g9
      go_wp2_with fail
      refine (HW.out _ G9.out).mono ?_
      rintro e w10 ⟨rfl, g10⟩
      have G10 := Lib.hid (gr_none G9.out g10)
      clear g10
      go_wp2
      go_ret
      exact ⟨rfl, G10.out⟩
    · have hgt : 150 < m.length := by omega
      go_enter Tryd.func5, Tryd.ntmps5
      go_wp2_with fail
      refine (HW.out _ (gr_refl _ _)).mono ?_
      rintro e w1 ⟨rfl, g1⟩
      have G1 := Lib.hid g1
      clear g1
      go_wp2
      go_ret
      exact ⟨rfl, G1.out⟩
  · have hgt : 150 < l.length := by omega
    go_enter Tryd.func5, Tryd.ntmps5
    go_wp2_with fail
    refine (HW.out _ (gr_refl _ _)).mono ?_
    rintro e w1 ⟨rfl, g1⟩
    have G1 := Lib.hid g1
    clear g1
    go_wp2
    go_ret
    exact ⟨rfl, G1.out⟩
end Go.Proofs.YthckjpcknmmagaaDoor.R
namespace Go.Proofs.YthckjpcknmmagaaDoor
theorem joins_any (v v' : Value) (l m : List Ed) (w : World) (hg : Glob w) (h : RdE w v l) (h' : RdE w v' m) :
    Calls Tryd.prog 5 #[v, v'] w fun e w' => e = .returned (.bool true) ∧ w.grownBy w' none := R.joins_any v v' _ _ w hg (R.rdE_of h) (R.rdE_of h')
end Go.Proofs.YthckjpcknmmagaaDoor
