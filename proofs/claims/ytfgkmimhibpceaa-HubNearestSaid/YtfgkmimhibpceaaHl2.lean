/-
  Hub: edges copied and held against each other; the walk of HubAdds.
-/
import Derived.Test.YtfgkmimhibpceaaHl1
namespace Go.Proofs.Ytfgkmimhibpceaa
open Go.RowKit
set_option maxRecDepth 100000
set_option maxHeartbeats 400000

theorem ownE_app {w : World} {B : Nat} {v : Value} {l m : List Ed} (h : Own w B 4 v (l.length + m.length) (l.flatMap Ed.enc ++ m.flatMap Ed.enc)) : OwnE w B v (l ++ m) := by
  unfold OwnE OwnG; rw [List.length_append, List.flatMap_append]; exact h
/-- append(v, x...) of edges. -/
theorem wp_appE {ops : Array Oper} {rest : List Oper} {o : Oper} {a : Act} {Q : Exit → Act → World → Prop} {w : World} (hgd : o.guard = none) (s0 x0 : Operand)
    (ho : o.op = .call { callee := .builtin .append, args := #[s0, x0], argTypes := #[23, 23] }) {B : Nat} {v x : Value} {l m : List Ed} (hs : a.eval s0 = v) (hown : OwnE w B v l)
    (hx : a.eval x0 = x) (hr : RdE w x m) (hn : l.length + m.length ≤ 1000000000) (hB : B ≤ w.heap.size)
    (h : ∀ v' w', OwnE w' B v' (l ++ m) → w.grownBy w' v.ownBlock → (v'.ownBlock = v.ownBlock ∨ ∃ k, v'.ownBlock = some k ∧ w.heap.size ≤ k) → wpList Try.prog ops Q rest (a.put o.dst v') w') :
    wpList Try.prog ops Q (o :: rest) a w :=
  wp_app w hgd s0 x0 _ ho B 49 _ 4 24 Try.underlying23 Try.infoE rfl (by omega) v _ _ hs hown x _ _ hx hr (ed_one m) (by unfold maxLen; omega) (by omega) hB
    fun v' w' h1 h2 h3 => h v' w' (ownE_app h1) h2 h3
def edEq (x y : Ed) : Bool := (x.t.toNat : Int) == y.t.toNat && ((x.h.toNat : Int) == y.h.toNat && ((x.w.toNat : Int) == y.w.toNat && (x.m.toNat : Int) == y.m.toNat))
theorem edEq_iff (x y : Ed) : edEq x y = true ↔ x = y := by
  obtain ⟨a, b, c, d⟩ := x
  obtain ⟨a', b', c', d'⟩ := y
  simp only [edEq, Bool.and_eq_true, beq_iff_eq, Ed.mk.injEq, Int.ofNat_inj, UInt32.toNat_inj, UInt64.toNat_inj]
theorem run_neqE (x y : Ed) (w : World) : (binOp .neq 49 x.v y.v).run Try.prog w = .ok (.bool (!edEq x y)) w := by
  unfold Ed.v
  rw [run_neq_struct]
  simp [go_sem]
  by_cases h1 : (x.t.toNat : Int) = y.t.toNat <;> by_cases h2 : (x.h.toNat : Int) = y.h.toNat <;> by_cases h3 : (x.w.toNat : Int) = y.w.toNat <;> by_cases h4 : (x.m.toNat : Int) = y.m.toNat <;> simp [edEq, h1, h2, h3, h4]
set_option maxHeartbeats 1000000 in
theorem eqE_any (v v' : Value) (l l' : List Ed) (w : World) (h : RdE w v l) (h' : RdE w v' l') (hn : l.length ≤ 1000000000) (hn' : l'.length ≤ 1000000000) :
    Calls Try.prog 18 #[v, v'] w fun e w' => (∃ b, e = .returned (.bool b) ∧ (b = true ↔ l = l')) ∧ w.grownBy w' none := by
  obtain ⟨A, c, rfl⟩ := h.form
  obtain ⟨A', c', rfl⟩ := h'.form
  obtain ⟨g, off, hA, _, hcells⟩ := h.at_ ed4
  obtain ⟨g', off', hA', _, hcells'⟩ := h'.at_ ed4
  have HA := Lib.hid hA
  have HC := Lib.hid hcells
  have HA' := Lib.hid hA'
  have HC' := Lib.hid hcells'
  clear hA hcells hA' hcells' h h'
  by_cases hl : l.length = l'.length
  · have hb : ((l.length : Int) != (l'.length : Int)) = false := by rw [bne_eq_false_iff_eq]; omega
    have hl1 : l.length ≤ l'.length := by omega
    have hl2 : l'.length ≤ l.length := by omega
    clear hl
    go_enter Try.func18, Try.ntmps18
    go_wp2
    go_loopw [5] (fun i wr => ∃ k : Nat, k ≤ l.length ∧ i = .int .i64 k ∧ l.take k = l'.take k ∧ w.grownBy wr none) (fun i _ => l.length - (intOf i).toNat)
    case atStart => exact ⟨0, by omega, rfl, by simp, gr_refl _ _⟩
    case round =>
      obtain ⟨k, hk, rfl, hall, hg⟩ := hrel
      have Hall := Lib.hid hall
      clear hall
      by_cases hlt : k < l.length
      · have hlt' : k < l'.length := by omega
        have := HA.out (by omega)
        subst this
        have := HA'.out (by omega)
        subst this
        rcases hx : l[k] with ⟨xa, xb, xc, xd⟩
        rcases hy : l'[k] with ⟨ya, yb, yc, yd⟩
        obtain ⟨c0, c1, c2, c3⟩ := at4E HC.out hg hlt hx
        obtain ⟨d0, d1, d2, d3⟩ := at4E HC'.out hg hlt' hy
        have Hx := Lib.hid hx
        have Hy := Lib.hid hy
        clear hx hy
        have hne := run_neqE ⟨xa, xb, xc, xd⟩ ⟨ya, yb, yc, yd⟩
        have Hiff := Lib.hid (edEq_iff ⟨xa, xb, xc, xd⟩ ⟨ya, yb, yc, yd⟩)
        simp only [Ed.v] at hne
        generalize edEq ⟨xa, xb, xc, xd⟩ ⟨ya, yb, yc, yd⟩ = B at *
        cases B
        · have Hd : Hid (¬ l = l') := fun e => by
            have hxy := Hiff.out
            have e1 := Hx.out
            have e2 := Hy.out
            subst e
            rw [e1] at e2
            exact absurd (hxy.2 e2) (by simp)
          go_wp2_with fail
          go_quiet (fail)
          go_wp2
          go_ret
          exact ⟨⟨_, rfl, ⟨(fun h => by cases h), fun h => absurd h Hd.out⟩⟩, gr_none hg (gr_drewN _ _ _)⟩
        · have Hxy := Lib.hid (Hiff.out.1 rfl)
          clear Hiff
          go_wp2_with fail
          go_quiet (fail)
          go_wp2
          go_roundw
          case rel => exact ⟨k + 1, by omega, by go_num, by
            rw [List.take_succ_eq_append_getElem hlt, List.take_succ_eq_append_getElem hlt', Hall.out, Hx.out, Hy.out, Hxy.out], gr_none hg (gr_drewN _ _ _)⟩
          case measure => simp [intOf]; omega
      · obtain rfl : k = l.length := by omega
        have He : Hid (l = l') := by
          have := Hall.out
          rw [List.take_length, List.take_of_length_le hl2] at this
          exact this
        go_wp2
        go_ret
        exact ⟨⟨_, rfl, ⟨fun _ => He.out, fun _ => rfl⟩⟩, hg⟩
  · have hb : ((l.length : Int) != (l'.length : Int)) = true := by rw [bne_iff_ne]; omega
    have Hd : Hid (¬ l = l') := fun e => hl (by rw [e])
    clear hl
    go_enter Try.func18, Try.ntmps18
    go_wp2
    go_ret
    exact ⟨⟨_, rfl, ⟨(fun h => by cases h), fun h => absurd h Hd.out⟩⟩, gr_refl _ _⟩
theorem copyE_any (v : Value) (l : List Ed) (w : World) (h : RdE w v l) (hn : l.length ≤ 1000000000) :
    Calls Try.prog 13 #[v] w fun e w' => (∃ v', e = .returned v' ∧ OwnE w' w.heap.size v' l) ∧ w.grownBy w' none := by
  have R0 := Lib.hid h
  clear h
  go_enter Try.func13, Try.ntmps13
  go_wp2_with (at_builtin; refine wp_appE (l := []) rfl (.tmp 4) (.tmp 5) rfl rfl (OwnG.nil _ _ _ w.heap.size) rfl R0.out (by simp; omega) (Nat.le_refl _) ?_; intro v1 w1 h1 g1 a1)
  go_ret
  exact ⟨⟨_, rfl, h1⟩, g1⟩
theorem large_len {all : List Ow} (h : all.length + sumM all ≤ 600) : all.length ≤ 600 ∧ ∀ x, (ofS all x).length ≤ 600 := by
  refine ⟨by omega, fun x => ?_⟩
  rcases ofS_mem all x with e | ⟨y, hy, e⟩
  · rw [e]; simp
  · rw [e]
    have := sumM_le all y hy
    omega
set_option maxHeartbeats 4000000 in
theorem hubAdds_any (v : UInt32) (ev sv : Value) (up : List Ed) (all : List Ow) (w : World) (hE : RdE w ev up) (hS : RdS w sv all) :
    Calls Try.prog 3 #[.int .u32 v.toNat, ev, sv] w fun e w' => e = .returned (.bool true) ∧ w.grownBy w' none := by
  have hmax2 : up.length ≤ maxLen := by obtain ⟨_, _, _, _, _, _, h1, h2, _⟩ := hE; omega
  unfold maxLen at hmax2
  have HW := Lib.hid works_any
  have HLG := Lib.hid (large_any sv all w hS)
  have HE := Lib.hid hE
  have HS := Lib.hid hS
  obtain ⟨AE, cE, rfl⟩ := hE.form
  obtain ⟨AS, cS, rfl⟩ := hS.1.form
  clear hE hS
  by_cases h40 : up.length ≤ 40
  · go_enter Try.func3, Try.ntmps3
    go_wp2_with fail
    refine HLG.out.mono ?_
    rintro e w1 ⟨⟨b, rfl, hb⟩, g1⟩
    have G1 := Lib.hid g1
    have HB := Lib.hid hb
    clear hb g1
    cases b
    · obtain ⟨ha, hm⟩ := large_len (HB.out rfl)
      have HM := Lib.hid hm
      clear hm
      have HCP := Lib.hid fun (wx : World) (hg : w.grownBy wx none) => copyE_any _ up wx (HE.out.ext hg) (by omega)
      have HAD := Lib.hid fun (wx : World) (hg : w.grownBy wx none) (u : Value) (sp : Nat) (hu : RdE wx u up) (hs : wx.cell? ⟨sp, 0, none⟩ = some (.slice AS all.length cS)) => add_of v u up sp _ all wx hu (by omega) hs (HS.out.ext hg) ha HM.out
      have HRA := Lib.hid fun (wx : World) (hg : w.grownBy wx none) => addr19_any v _ _ up all wx (HE.out.ext hg) (by omega) (HS.out.ext hg) ha HM.out
      have HA0 := Lib.hid fun (wx : World) (u : Value) (hu : RdE wx u up) => add_0 v u up wx hu (by omega)
      have HEE := Lib.hid fun (wx : World) (hg : w.grownBy wx none) (u : Value) (hu : RdE wx u up) => eqE_any u _ up up wx hu (HE.out.ext hg) (by omega) (by omega)
      go_wp2_with fail
      have G2 : Hid (w.grownBy (w1.alloc (.cells #[.slice AS all.length cS] 29)) none) := gr_none G1.out (gr_alloc _ _ _)
      have hsp : (w1.alloc (.cells #[.slice AS all.length cS] 29)).cell? ⟨w1.heap.size, 0, none⟩ = some (.slice AS all.length cS) := by rw [cell_new]; rfl
      have HSP := Lib.hid hsp
      have HC2 := Lib.hid (HCP.out _ G2.out)
      clear hsp
      refine HC2.out.mono ?_
      rintro e w3 ⟨⟨u3, rfl, ho3⟩, g3⟩
      obtain ⟨A3, c3, rfl⟩ := ho3.rd.form
      have G3 := Lib.hid (gr_none G2.out g3)
      have HR3 := Lib.hid ho3.rd
      have HA3 := Lib.hid (HAD.out w3 G3.out _ w1.heap.size ho3.rd (g3.cell HSP.out (by simp)))
      clear ho3 g3
      go_wp2_with fail
      refine HA3.out.mono ?_
      rintro e w4 ⟨⟨u4, rfl, ho4, hl4⟩, g4⟩
      obtain ⟨A4, c4, rfl⟩ := ho4.rd.form
      have G4 := Lib.hid (gr_none G3.out g4)
      have HR4 := Lib.hid (HR3.out.ext g4)
      have HO4 := Lib.hid ho4.rd
      have HB4 := Lib.hid (HRA.out w4 G4.out)
      clear ho4 g4
      go_wp2_with fail
      refine HB4.out.mono ?_
      rintro e w5 ⟨⟨u5, rfl, ho5⟩, g5⟩
      obtain ⟨A5, c5, rfl⟩ := ho5.rd.form
      have G5 := Lib.hid (gr_none G4.out g5)
      have HR5 := Lib.hid (HR4.out.ext g5)
      have HQ5 := Lib.hid (eqL_any _ _ _ _ w5 (HO4.out.ext g5) ho5.rd (by omega) (by omega))
      clear ho5 g5
      go_wp2_with fail
      refine HQ5.out.mono ?_
      rintro e w6 ⟨⟨b, rfl, hb⟩, g6⟩
      obtain rfl : b = true := by first | exact hb.2 rfl | exact hb.2 trivial
      have G6 := Lib.hid (gr_none G5.out g6)
      have HR6 := Lib.hid (HR5.out.ext g6)
      have HQ6 := Lib.hid (HEE.out w6 G6.out _ HR6.out)
      clear hb g6
      go_wp2_with fail
      refine HQ6.out.mono ?_
      rintro e w7 ⟨⟨b, rfl, hb⟩, g7⟩
      obtain rfl : b = true := by first | exact hb.2 rfl | exact hb.2 trivial
      have G7 := Lib.hid (gr_none G6.out g7)
      have HR7 := Lib.hid (HR6.out.ext g7)
      have HA7 := Lib.hid (HA0.out w7 _ HR7.out)
      clear hb g7
      go_wp2_with fail
      refine HA7.out.mono ?_
      rintro e w8 ⟨⟨u8, rfl, ho8⟩, g8⟩
      obtain ⟨A8, c8, rfl⟩ := ho8.rd.form
      obtain ⟨g9, off9, hA9, -, hc9⟩ := ho8.rd.at_ lb3
      obtain rfl := hA9 (by simp)
      obtain ⟨d0, d1, d2⟩ := at3L hc9 (gr_refl _ _) (k := 0) (by simp) rfl
      rw [Nat.zero_mul, Nat.add_zero] at d0 d1 d2
      have G8 := Lib.hid (gr_none G7.out g8)
      clear ho8 g8 hc9 hA9
      go_wp2_with fail
      refine (HW.out _).mono ?_
      rintro e w9 ⟨rfl, g9⟩
      have G9 := Lib.hid (gr_none G8.out g9)
      clear g9
      go_wp2
      go_ret
      exact ⟨rfl, G9.out⟩
    · go_wp2_with fail
      refine (HW.out _).mono ?_
      rintro e w3 ⟨rfl, g3⟩
      have G3 := Lib.hid (gr_none G1.out g3)
      clear g3
      go_wp2
      go_ret
      exact ⟨rfl, G3.out⟩
  · have hgt : 40 < up.length := by omega
    go_enter Try.func3, Try.ntmps3
    go_wp2_with fail
    refine HLG.out.mono ?_
    rintro e w1 ⟨⟨b, rfl, hb⟩, g1⟩
    have G1 := Lib.hid g1
    clear hb g1
    cases b
    all_goals
      go_wp2_with fail
      refine (HW.out _).mono ?_
      rintro e w3 ⟨rfl, g3⟩
      have G3 := Lib.hid (gr_none G1.out g3)
      clear g3
      go_wp2
      go_ret
      exact ⟨rfl, G3.out⟩
end Go.Proofs.Ytfgkmimhibpceaa
