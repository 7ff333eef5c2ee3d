/-
  Hub: the walks of HubRises and HubAlone.
-/
import Derived.Test.YtfgkmimhibpceaaHw
namespace Go.Proofs.Ytfgkmimhibpceaa
open Go.RowKit
set_option maxRecDepth 100000
set_option maxHeartbeats 400000

theorem drop_rev {l : List Lb} {k : Nat} (hk : k < l.length) : (l.drop k).reverse = (l.drop (k + 1)).reverse ++ [l[k]] := by
  rw [List.drop_eq_getElem_cons hk, List.reverse_cons]
theorem turned_any (v : Value) (l : List Lb) (w : World) (h : RdL w v l) (hn : l.length ≤ 1000000) :
    Calls Try.prog 26 #[v] w fun e w' => (∃ u, e = .returned u ∧ OwnL w' w.heap.size u l.reverse) ∧ w.grownBy w' none := by
  obtain ⟨A, c, rfl⟩ := h.form
  obtain ⟨g, off, hA, _, hcells⟩ := h.at_ lb3
  have HA := Lib.hid hA
  have HC := Lib.hid hcells
  clear hA hcells h
  go_enter Try.func26, Try.ntmps26
  go_wp2
  go_loopw [4, 3] (fun i u wr => ∃ k : Nat, k ≤ l.length ∧ i = .int .i64 ((k : Int) - 1) ∧ Hid (OwnL wr w.heap.size u (l.drop k).reverse) ∧ w.grownBy wr none) (fun i _ _ => (intOf i + 1).toNat)
  case atStart => exact ⟨l.length, by omega, rfl, Lib.hid (by rw [List.drop_length]; exact OwnG.nil _ _ _ _), gr_refl _ _⟩
  case round =>
    obtain ⟨k, hk, rfl, ho, hg⟩ := hrel
    rcases k with _ | k
    · have ho2 := ho.out
      rw [List.drop_zero] at ho2
      obtain ⟨Au, cu, rfl⟩ := ho2.rd.form
      have HO2 := Lib.hid ho2
      clear ho ho2
      go_wp2
      go_ret
      exact ⟨⟨_, rfl, by simpa using HO2.out⟩, hg⟩
    · have hlt : k < l.length := by omega
      have := HA.out (by omega)
      subst this
      rcases hx : l[k] with ⟨xa, xb, xc⟩
      obtain ⟨c0, c1, c2⟩ := at3L HC.out hg hlt hx
      have HD := Lib.hid (drop_rev hlt)
      rw [hx] at HD
      have hfl : (l.drop (k + 1)).reverse.length ≤ l.length := by simp
      clear hx
      generalize (l.drop (k + 1)).reverse = F at *
      obtain ⟨Au, cu, rfl⟩ := ho.out.rd.form
      have e1 : ((k + 1 : Nat) : Int) - 1 = (k : Int) := by push_cast; omega
      rw [e1]
      have hz := hg.size
      go_wp2_with (at_builtin; refine wp_app1L ⟨xa, xb, xc⟩ _ rfl rfl (.tmp 12) (.tmp 17) rfl rfl ho.out wr.heap.size rfl rfl (by omega) hz ?_; intro v6 w6 h6 g6 a6)
      have G6 : w.grownBy w6 none := gr_trans hg g6 (.inr ho.out.lt)
      go_roundw
      case rel => exact ⟨k, by omega, by go_num, by rw [HD.out]; exact Lib.hid h6, G6⟩
      case measure => simp [intOf]
theorem ris_rev {l : List Lb} (h : Ris l) : Ris l.reverse ↔ l.length < 2 := by
  constructor
  · intro hr
    apply Nat.lt_of_not_le
    intro h2
    have h1 := h.lt 0 (l.length - 1) (by omega) (by omega) (by omega)
    have h3 := hr.lt 0 (l.length - 1) (by simp; omega) (by simp; omega) (by omega)
    rw [List.getElem_reverse, List.getElem_reverse] at h3
    have e : l.length - 1 - (l.length - 1) = 0 := by omega
    simp only [Nat.sub_zero, e] at h3
    omega
  · intro h2 i hi
    simp at hi
    omega
set_option maxHeartbeats 2000000 in
theorem hubRises_any (v : Value) (l : List Lb) (w : World) (h : RdL w v l) :
    Calls Try.prog 8 #[v] w fun e w' => e = .returned (.bool true) ∧ w.grownBy w' none := by
  have hmax : l.length ≤ maxLen := by obtain ⟨_, _, _, _, _, _, h1, h2, _⟩ := h; omega
  unfold maxLen at hmax
  have HW := Lib.hid works_any
  by_cases h300 : l.length ≤ 300
  · have HR := Lib.hid fun (wx : World) (hg : w.grownBy wx none) => right_any v l wx (h.ext hg) (by omega)
    have HT := Lib.hid fun (wx : World) (hg : w.grownBy wx none) => turned_any v l wx (h.ext hg) (by omega)
    obtain ⟨A, c, rfl⟩ := h.form
    obtain ⟨g, off, hA, _, hcells⟩ := h.at_ lb3
    have HA := Lib.hid hA
    have HC := Lib.hid hcells
    clear hA hcells h hmax
    go_enter Try.func8, Try.ntmps8
    go_wp2
    go_loopw [4, 3] (fun i t wr => ∃ (k : Nat) (b : Bool), (k = 0 ∨ k < l.length) ∧ i = .int .i64 ((k : Int) + 1) ∧ t = .bool b ∧ (b = true ↔ RisTo l (k + 1)) ∧ w.grownBy wr none) (fun i _ _ => l.length + 1 - (intOf i).toNat)
    case atStart => exact ⟨0, true, .inl rfl, rfl, rfl, ⟨fun _ => RisTo.one l, fun _ => rfl⟩, gr_refl _ _⟩
    case round =>
      obtain ⟨k, b, hk, rfl, rfl, hall, hg⟩ := hrel
      have Hall := Lib.hid hall
      clear hall
      by_cases hlt : k + 1 < l.length
      · have := HA.out (by omega)
        subst this
        rcases hx : l[k] with ⟨xa, xb, xc⟩
        rcases hy : l[k + 1] with ⟨ya, yb, yc⟩
        obtain ⟨c0, c1, c2⟩ := at3L HC.out hg (by omega) hx
        obtain ⟨d0, d1, d2⟩ := at3L HC.out hg hlt hy
        have Hx := Lib.hid hx
        have Hy := Lib.hid hy
        have hkb : k ≤ 1000 := by omega
        clear hx hy c1 c2 d1 d2 hk
        have HN : Hid ((b && decide (xa.toNat < ya.toNat)) = true ↔ RisTo l (k + 1 + 1)) := by
          show _ ↔ _
          rw [Bool.and_eq_true, Hall.out, decide_eq_true_eq]
          constructor
          · rintro ⟨h1, h2⟩
            exact h1.succ hlt (by rw [Hx.out, Hy.out]; exact h2)
          · intro h1
            refine ⟨fun i hi h2 => h1 i hi (by omega), ?_⟩
            have := h1 k hlt (by omega)
            rw [Hx.out, Hy.out] at this
            exact this
        cases b
        · go_wp2_with fail
          go_quiet (fail)
          go_wp2
          go_roundw
          case rel => exact ⟨k + 1, _, .inr hlt, by go_num, rfl, HN.out, gr_none hg (gr_drewN _ _ _)⟩
          case measure => simp [intOf]; omega
        · go_wp2_with fail
          go_quiet (fail)
          go_wp2
          go_roundw
          case rel => exact ⟨k + 1, _, .inr hlt, by go_num, rfl, HN.out, gr_none hg (gr_drewN _ _ _)⟩
          case measure => simp [intOf]; omega
      · have HE : Hid (b = true ↔ Ris l) := Hall.out.trans ⟨fun h i hi => h i hi (by omega), fun h i hi _ => h i hi⟩
        have hkb : k ≤ 1000 := by omega
        have HRW := Lib.hid (HR.out wr hg)
        have G0 := Lib.hid hg
        clear hk hg
        go_wp2_with fail
        refine HRW.out.mono ?_
        rintro e w1 ⟨⟨b', rfl, hb'⟩, g1⟩
        obtain rfl : b = b' := by rw [Bool.eq_iff_iff]; exact HE.out.trans hb'.symm
        have G1 := Lib.hid (gr_none G0.out g1)
        have HTW := Lib.hid (HT.out w1 G1.out)
        clear g1 hb'
        cases b
        · go_wp2_with fail
          refine (HW.out _).mono ?_
          rintro e w3 ⟨rfl, g3⟩
          have G3 := Lib.hid (gr_none G1.out g3)
          clear g3
          go_wp2
          go_ret
          exact ⟨rfl, G3.out⟩
        · go_wp2_with fail
          refine HTW.out.mono ?_
          rintro e w2 ⟨⟨u, rfl, ho⟩, g2⟩
          have HR2 := Lib.hid (right_any _ _ w2 ho.rd (by simp; omega))
          have G2 := Lib.hid (gr_none G1.out g2)
          obtain ⟨Au, cu, rfl⟩ := ho.rd.form
          rw [List.length_reverse] at HR2
          clear ho g2
          go_wp2_with fail
          refine HR2.out.mono ?_
          rintro e w3 ⟨⟨b3, rfl, hb3⟩, g3⟩
          obtain rfl : b3 = decide (l.length < 2) := by rw [Bool.eq_iff_iff, hb3, decide_eq_true_eq]; exact ris_rev (HE.out.1 (by first | rfl | trivial))
          have G3 := Lib.hid (gr_none G2.out g3)
          clear g3 hb3
          go_wp2_with fail
          all_goals
            refine (HW.out _).mono ?_
            rintro e w4 ⟨rfl, g4⟩
            have G4 := Lib.hid (gr_none G3.out g4)
            clear g4
            go_wp2
            go_ret
            exact ⟨rfl, G4.out⟩
  · have hgt : 300 < l.length := by omega
    obtain ⟨A, c, rfl⟩ := h.form
    clear h h300
    go_enter Try.func8, Try.ntmps8
    go_wp2_with fail
    refine (HW.out _).mono ?_
    rintro e w3 ⟨rfl, g3⟩
    have G3 := Lib.hid g3
    clear g3
    go_wp2
    go_ret
    exact ⟨rfl, G3.out⟩
set_option maxHeartbeats 2000000 in
theorem hubAlone_any (v : UInt32) (ev lv : Value) (up : List Ed) (l : List Lb) (w : World) (hE : RdE w ev up) (h : RdL w lv l) :
    Calls Try.prog 7 #[.int .u32 v.toNat, ev, lv] w fun e w' => e = .returned (.bool true) ∧ w.grownBy w' none := by
  have hmax : l.length ≤ maxLen := by obtain ⟨_, _, _, _, _, _, h1, h2, _⟩ := h; omega
  have hmax2 : up.length ≤ maxLen := by obtain ⟨_, _, _, _, _, _, h1, h2, _⟩ := hE; omega
  unfold maxLen at hmax hmax2
  have HW := Lib.hid works_any
  by_cases hbig : up.length ≤ 300 ∧ l.length ≤ 300
  · obtain ⟨hu, hl⟩ := hbig
    have HA := Lib.hid (add_0 v ev up w hE (by omega))
    have HP := Lib.hid fun (wx : World) (hg : w.grownBy wx none) => prune_0 lv l wx (h.ext hg) (by omega)
    have HQ := Lib.hid fun (wx : World) (hg : w.grownBy wx none) (u : Value) (hu : RdL wx u l) => eqL_any u lv l l wx hu (h.ext hg) (by omega) (by omega)
    obtain ⟨A, c, rfl⟩ := h.form
    obtain ⟨AE, cE, rfl⟩ := hE.form
    clear h hE hmax hmax2
    go_enter Try.func7, Try.ntmps7
    go_wp2_with fail
    refine HA.out.mono ?_
    rintro e w1 ⟨⟨u, rfl, ho⟩, g1⟩
    obtain ⟨A1, c1, rfl⟩ := ho.rd.form
    obtain ⟨g9, off9, hA9, -, hc9⟩ := ho.rd.at_ lb3
    obtain rfl := hA9 (by simp)
    obtain ⟨d0, d1, d2⟩ := at3L hc9 (gr_refl _ _) (k := 0) (by simp) rfl
    rw [Nat.zero_mul, Nat.add_zero] at d0 d1 d2
    have G1 := Lib.hid g1
    have HP1 := Lib.hid (HP.out w1 g1)
    clear ho g1 hc9 hA9
    go_wp2_with fail
    refine HP1.out.mono ?_
    rintro e w2 ⟨⟨u2, rfl, ho2⟩, g2⟩
    obtain ⟨A2, c2, rfl⟩ := ho2.rd.form
    have G2 := Lib.hid (gr_none G1.out g2)
    have HQ2 := Lib.hid (HQ.out w2 G2.out _ ho2.rd)
    clear ho2 g2
    go_wp2_with fail
    refine HQ2.out.mono ?_
    rintro e w3 ⟨⟨b, rfl, hb⟩, g3⟩
    obtain rfl : b = true := by first | exact hb.2 rfl | exact hb.2 trivial
    have G3 := Lib.hid (gr_none G2.out g3)
    clear hb g3
    go_wp2_with fail
    refine (HW.out _).mono ?_
    rintro e w4 ⟨rfl, g4⟩
    have G4 := Lib.hid (gr_none G3.out g4)
    clear g4
    go_wp2
    go_ret
    exact ⟨rfl, G4.out⟩
  · obtain ⟨A, c, rfl⟩ := h.form
    obtain ⟨AE, cE, rfl⟩ := hE.form
    clear h hE
    by_cases hu : up.length ≤ 300
    · have hl : ¬ l.length ≤ 300 := fun h => hbig ⟨hu, h⟩
      clear hbig
      go_enter Try.func7, Try.ntmps7
      go_wp2_with fail
      refine (HW.out _).mono ?_
      rintro e w3 ⟨rfl, g3⟩
      have G3 := Lib.hid g3
      clear g3
      go_wp2
      go_ret
      exact ⟨rfl, G3.out⟩
    · clear hbig
      go_enter Try.func7, Try.ntmps7
      go_wp2_with fail
      refine (HW.out _).mono ?_
      rintro e w3 ⟨rfl, g3⟩
      have G3 := Lib.hid g3
      clear g3
      go_wp2
      go_ret
      exact ⟨rfl, G3.out⟩
end Go.Proofs.Ytfgkmimhibpceaa
