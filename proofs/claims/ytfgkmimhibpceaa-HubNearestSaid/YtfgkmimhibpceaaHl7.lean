/-
  Hub: the walk of HubNearest.
-/
import Derived.Test.YtfgkmimhibpceaaHl2
import Derived.Test.YtfgkmimhibpceaaHra
import Derived.Test.YtfgkmimhibpceaaHnP
import Derived.Deep.OwnRows
import Derived.StillTailTactics
namespace Go.Proofs.Ytfgkmimhibpceaa
open Go.RowKit
set_option maxRecDepth 100000
set_option maxHeartbeats 400000

theorem Try.infoBool : (Try.prog.info? 4).map (fun i => (i.zero, i.size, i.bytes)) = some (some (.bool false), 1, 1) := by kernel_rfl
theorem make_bools (n : Nat) (hn : n ≤ 1000000) (w : World) : (Instr.makeSlice 46 (.int .i64 (n : Int)) (.int .i64 (n : Int))).run Try.prog w = .ok (.slice (some ⟨w.heap.size, 0, none⟩) n n) (w.alloc (.cells (Bs (fun _ => false) n) 4)) := by
  have h := run_make_row' (P := Try.prog) 46 4 (.bool false) 1 Try.underlying46 Try.infoBool rfl .i64 .i64 n (by omega) (by omega) w
  rw [Bs_none] at h
  exact h
/-- bools in a block of the call's own, behind a world. -/
structure BsIn (w0 : World) (S : Nat → Bool) (n : Nat) (w : World) : Prop where
  blk : Blk w w0.heap.size 4 (Bs S n)
  gr : w0.grownBy w none
theorem BsIn.new (w : World) (n : Nat) : BsIn w (fun _ => false) n (w.alloc (.cells (Bs (fun _ => false) n) 4)) := ⟨Blk.new _ _ _, gr_alloc _ _ none⟩
theorem BsIn.ext {w0 w w' : World} {S : Nat → Bool} {n : Nat} (h : BsIn w0 S n w) (hg : w.grownBy w' none) : BsIn w0 S n w' := ⟨h.blk.ext hg, gr_none h.gr hg⟩
theorem BsIn.set {w0 w : World} {S : Nat → Bool} {n : Nat} (h : BsIn w0 S n w) (i : Nat) (b : Bool) : BsIn w0 (setB S i b) n (w.setCell ⟨w0.heap.size, i, none⟩ (.bool b)) :=
  ⟨by rw [← Bs_set]; exact h.blk.set i _, gr_set_new h.gr _ _ (Nat.le_refl _)⟩
theorem BsIn.cell {w0 w : World} {S : Nat → Bool} {n i : Nat} (h : BsIn w0 S n w) (hi : i < n) : w.cell? ⟨w0.heap.size, i, none⟩ = some (.bool (S i)) := by rw [h.blk.cell]; exact Bs_get S hi
theorem BsIn.frozen {w0 w : World} {S : Nat → Bool} {n : Nat} (h : BsIn w0 S n w) (i : Nat) : w.frozen? ⟨w0.heap.size, i, none⟩ = false := h.blk.frozen i
attribute [local irreducible] wpStill in
set_option maxHeartbeats 40000000 in
theorem hubNearest_any (v : UInt32) (ev sv : Value) (up : List Ed) (all : List Ow) (w : World) (hE : RdE w ev up) (hS : RdS w sv all) :
    Calls Try.prog 5 #[.int .u32 v.toNat, ev, sv] w fun e w' => e = .returned (.bool true) ∧ w.grownBy w' none := by
  have hmax2 : up.length ≤ maxLen := by obtain ⟨_, _, _, _, _, _, h1, h2, _⟩ := hE; omega
  unfold maxLen at hmax2
  have HW := Lib.hid works_any
  have HLG := Lib.hid (large_any sv all w hS)
  have HE := Lib.hid hE
  have HS := Lib.hid hS
  obtain ⟨AE, cE, rfl⟩ := hE.form
  obtain ⟨AS, cS, rfl⟩ := hS.1.form
  obtain ⟨g, off, hA, _, hcells⟩ := hE.at_ ed4
  have HA := Lib.hid hA
  have HC := Lib.hid hcells
  clear hE hS hA hcells
  by_cases h40 : up.length ≤ 40
  · go_enter Try.func5, Try.ntmps5
    go_wp2_with fail
    refine HLG.out.mono ?_
    rintro e w1 ⟨⟨b, rfl, hb⟩, g1⟩
    have G1 := Lib.hid g1
    have HB := Lib.hid hb
    clear hb g1
    cases b
    · obtain ⟨ha, hm⟩ := large_len (HB.out rfl)
      have HM := Lib.hid hm
      clear hm
      have HAD := Lib.hid fun (wx : World) (hg : w.grownBy wx none) (u : Value) (sp : Nat) (hu : RdE wx u up) (hs : wx.cell? ⟨sp, 0, none⟩ = some (.slice AS all.length cS)) => add_of v u up sp _ all wx hu (by omega) hs (HS.out.ext hg) ha HM.out
      have HOF := Lib.hid fun (wx : World) (hg : w.grownBy wx none) (x : UInt32) => ofr_at _ all x wx (HS.out.ext hg) (by omega)
      go_wp2_with fail
      have G2 : Hid (w.grownBy (w1.alloc (.cells #[.slice AS all.length cS] 29)) none) := gr_none G1.out (gr_alloc _ _ _)
      have HSP : Hid ((w1.alloc (.cells #[.slice AS all.length cS] 29)).cell? ⟨w1.heap.size, 0, none⟩ = some (.slice AS all.length cS)) := by show _ = _; rw [cell_new]; rfl
      have HA3 := Lib.hid (HAD.out _ G2.out _ w1.heap.size (HE.out.ext G2.out) HSP.out)
      refine HA3.out.mono ?_
      rintro e w4 ⟨⟨u4, rfl, ho4, hl4⟩, g4⟩
      have HNS := Lib.hid (addL_nst v up (ofS all))
      have HG4 := Lib.hid (gr_none G2.out g4)
      obtain ⟨A4, c4, rfl⟩ := ho4.rd.form
      obtain ⟨g9, off9, hA9, _, hc9⟩ := ho4.rd.at_ lb3
      have HA9 := Lib.hid hA9
      have HC9 := Lib.hid hc9
      clear ho4 g4 hA9 hc9 HA3
      generalize addL v up (ofS all) = AL at *
      have hmk := make_bools AL.length hl4
      go_wp2
      clear hmk
      go_loopw [10] (fun i wr => ∃ (k : Nat) (S : Nat → Bool), k ≤ AL.length ∧ i = .int .i64 k ∧ BsIn w4 S AL.length wr ∧ Hid (∀ t (h : t < AL.length), t < k → AL[t] = ⟨v, v, 0⟩ → S t = true)) (fun i _ => AL.length - (intOf i).toNat)
      case atStart => exact ⟨0, _, by omega, rfl, BsIn.new _ _, fun t h h0 => by omega⟩
      case round =>
        obtain ⟨k, S, hk, rfl, hbs, hse⟩ := hrel
        have HBS := Lib.hid hbs
        clear hbs
        by_cases hlt : k < AL.length
        · have := HA9.out (by omega)
          subst this
          rcases hx : AL[k] with ⟨xa, xb, xc⟩
          have HX := Lib.hid hx
          clear hx
          have HNX : Hid (∀ b : Bool, (xa.toNat = v.toNat → xb.toNat = v.toNat → xc.toNat = 0 → b = true) → ∀ t (h : t < AL.length), t < k + 1 → AL[t] = ⟨v, v, 0⟩ → setB S k b t = true) := fun b hb t ht h1 he => by
            unfold setB
            by_cases e : t = k
            · subst e
              rw [if_pos rfl]
              rw [HX.out] at he
              simp only [Lb.mk.injEq] at he
              obtain ⟨rfl, rfl, rfl⟩ := he
              exact hb rfl rfl rfl
            · rw [if_neg e]; exact hse.out t ht (by omega) he
          clear hse
          rcases k with _ | j
          · as_aux_lemma =>
            obtain ⟨d0, d1, d2⟩ := at3L HC9.out HBS.out.gr hlt HX.out
            go_wp2_with fail
            go_quiet (fail)
            generalize hwq : World.drewN _ _ = wq
            have HBQ : Hid (BsIn w4 S AL.length wq) := by show BsIn _ _ _ _; rw [← hwq]; exact HBS.out.ext (gr_drewN _ _ _)
            clear hwq d0 d1 d2
            obtain ⟨d0, d1, d2⟩ := at3L HC9.out HBQ.out.gr hlt HX.out
            rw [Nat.zero_mul, Nat.add_zero] at d0 d1 d2
            have hbc := HBQ.out.cell hlt
            have hbf := HBQ.out.frozen 0
            by_cases e1 : xa.toNat = v.toNat
            · have b1 : ((xa.toNat : Int) == (v.toNat : Int)) = true := by simp; omega
              by_cases e2 : xc.toNat = 0
              · have b2 : ((xc.toNat : Int) == 0) = true := by simp; omega
                by_cases e3 : xb.toNat = v.toNat
                · have b3 : ((xb.toNat : Int) == (v.toNat : Int)) = true := by simp; omega
                  have HN := Lib.hid (HNX.out true fun _ _ _ => rfl)
                  clear e1 e2 e3
                  go_wp2
                  go_roundw
                  case rel => exact ⟨1, _, by omega, by go_num, HBQ.out.set _ true, HN⟩
                  case measure => simp [intOf]; omega
                · have b3 : ((xb.toNat : Int) == (v.toNat : Int)) = false := by simp; omega
                  have HN := Lib.hid (HNX.out false fun _ h _ => absurd h e3)
                  clear e1 e2 e3
                  go_wp2
                  go_roundw
                  case rel => exact ⟨1, _, by omega, by go_num, HBQ.out.set _ false, HN⟩
                  case measure => simp [intOf]; omega
              · have b2 : ((xc.toNat : Int) == 0) = false := by simp; omega
                have HN := Lib.hid (HNX.out false fun _ _ h => absurd h e2)
                clear e1 e2
                go_wp2
                go_roundw
                case rel => exact ⟨1, _, by omega, by go_num, HBQ.out.set _ false, HN⟩
                case measure => simp [intOf]; omega
            · have b1 : ((xa.toNat : Int) == (v.toNat : Int)) = false := by simp; omega
              have HN := Lib.hid (HNX.out false fun h _ _ => absurd h e1)
              clear e1
              go_wp2
              go_roundw
              case rel => exact ⟨1, _, by omega, by go_num, HBQ.out.set _ false, HN⟩
              case measure => simp [intOf]; omega
          · as_aux_lemma =>
            have hgt : AL[j].hub.toNat < AL[j + 1].hub.toNat := HNS.out.ris j hlt
            rcases hy : AL[j] with ⟨ya, yb, yc⟩
            rw [hy, HX.out] at hgt
            simp only [] at hgt
            obtain ⟨d0, d1, d2⟩ := at3L HC9.out HBS.out.gr hlt HX.out
            obtain ⟨y0, y1, y2⟩ := at3L HC9.out HBS.out.gr (by omega) hy
            clear hy y1 y2
            have hnle : ¬ xa.toNat ≤ ya.toNat := by omega
            go_wp2_with fail
            go_quiet (fail)
            generalize hwq : World.drewN _ _ = wq
            have HBQ : Hid (BsIn w4 S AL.length wq) := by show BsIn _ _ _ _; rw [← hwq]; exact HBS.out.ext (gr_drewN _ _ _)
            clear hwq d0 d1 d2 y0 hgt hnle
            obtain ⟨d0, d1, d2⟩ := at3L HC9.out HBQ.out.gr hlt HX.out
            have hbc := HBQ.out.cell hlt
            have hbf := HBQ.out.frozen (j + 1)
            by_cases e1 : xa.toNat = v.toNat
            · have b1 : ((xa.toNat : Int) == (v.toNat : Int)) = true := by simp; omega
              by_cases e2 : xc.toNat = 0
              · have b2 : ((xc.toNat : Int) == 0) = true := by simp; omega
                by_cases e3 : xb.toNat = v.toNat
                · have b3 : ((xb.toNat : Int) == (v.toNat : Int)) = true := by simp; omega
                  have HN := Lib.hid (HNX.out true fun _ _ _ => rfl)
                  clear e1 e2 e3
                  go_wp2
                  go_roundw
                  case rel => exact ⟨j + 1 + 1, _, by omega, by go_num, HBQ.out.set _ true, HN⟩
                  case measure => simp [intOf]; omega
                · have b3 : ((xb.toNat : Int) == (v.toNat : Int)) = false := by simp; omega
                  have HN := Lib.hid (HNX.out false fun _ h _ => absurd h e3)
                  clear e1 e2 e3
                  go_wp2
                  go_roundw
                  case rel => exact ⟨j + 1 + 1, _, by omega, by go_num, HBQ.out.set _ false, HN⟩
                  case measure => simp [intOf]; omega
              · have b2 : ((xc.toNat : Int) == 0) = false := by simp; omega
                have HN := Lib.hid (HNX.out false fun _ _ h => absurd h e2)
                clear e1 e2
                go_wp2
                go_roundw
                case rel => exact ⟨j + 1 + 1, _, by omega, by go_num, HBQ.out.set _ false, HN⟩
                case measure => simp [intOf]; omega
            · have b1 : ((xa.toNat : Int) == (v.toNat : Int)) = false := by simp; omega
              have HN := Lib.hid (HNX.out false fun h _ _ => absurd h e1)
              clear e1
              go_wp2
              go_roundw
              case rel => exact ⟨j + 1 + 1, _, by omega, by go_num, HBQ.out.set _ false, HN⟩
              case measure => simp [intOf]; omega
        · as_aux_lemma =>
          obtain rfl : k = AL.length := by omega
          have HSE : Hid (SeenC AL (CandTo v up (ofS all) 0 0) S) := fun t ht hc => hse.out t ht ht (CandTo.own.1 hc)
          clear hse
          go_wp2
          go_loopw [11] (fun i wr => ∃ (k : Nat) (S : Nat → Bool), k ≤ up.length ∧ i = .int .i64 k ∧ BsIn w4 S AL.length wr ∧ Hid (SeenC AL (CandTo v up (ofS all) k 0) S)) (fun i _ => up.length - (intOf i).toNat)
          case atStart => exact ⟨0, _, by omega, rfl, HBS.out, HSE⟩
          case round =>
            clear HSE HBS
            obtain ⟨k, S, hk, rfl, hbs, HSE⟩ := hrel
            have HBS := Lib.hid hbs
            clear hbs
            by_cases hlt : k < up.length
            · have := HA.out (by omega)
              subst this
              rcases hx : up[k] with ⟨ea, eb, ec, ed⟩
              obtain ⟨c0, c1, c2, c3⟩ := at4E HC.out (gr_none HG4.out HBS.out.gr) hlt hx
              have Hx := Lib.hid hx
              have HEM : Hid ((⟨ea, eb, ec, ed⟩ : Ed) ∈ up) := hx ▸ List.getElem_mem hlt
              have HO5 := Lib.hid (HOF.out wr (gr_none HG4.out HBS.out.gr) eb)
              have HLM := HM.out eb
              clear hx
              go_wp2_with fail
              refine HO5.out.mono ?_
              rintro e w5 ⟨⟨u, rfl, hat⟩, g5⟩
              have HR := Lib.hid (hat.rd HS.out)
              have HB5 := Lib.hid (HBS.out.ext g5)
              obtain ⟨A3, c5, rfl⟩ := HR.out.form
              clear hat g5 c0 c1 c2 c3 HBS HO5
              generalize hL : ofS all eb = L at HLM HR
              have HLE := Lib.hid hL
              clear hL
              obtain ⟨g3, off3, hA3, _, hc3⟩ := HR.out.at_ lb3
              have HA3 := Lib.hid hA3
              have HC3 := Lib.hid hc3
              clear hA3 hc3
              go_wp2
              go_loopw [13] (fun i wq => ∃ (j : Nat) (S : Nat → Bool), j ≤ L.length ∧ i = .int .i64 j ∧ BsIn w4 S AL.length wq ∧ Hid (SeenC AL (CandTo v up (ofS all) k j) S)) (fun i _ => L.length - (intOf i).toNat)
              case atStart => exact ⟨0, _, by omega, rfl, HB5.out, HSE⟩
              case round =>
                clear HSE HB5
                obtain ⟨j, S, hj, rfl, hbs, HSE⟩ := hrel
                have HBS := Lib.hid hbs
                clear hbs
                by_cases hlj : j < L.length
                · have := HA3.out (by omega)
                  subst this
                  rcases hy : L[j] with ⟨xa, xb, xd⟩
                  obtain ⟨d0, d1, d2⟩ := at3L HC3.out (gr_none HG4.out HBS.out.gr) hlj hy
                  obtain ⟨c0, c1, c2, c3⟩ := at4E HC.out (gr_none HG4.out HBS.out.gr) hlt Hx.out
                  have HY := Lib.hid hy
                  have HCL := Lib.hid (CandTo.label (v := v) hlt Hx.out HLE.out hlj hy)
                  have HXM : Hid ((⟨xa, xb, xd⟩ : Lb) ∈ ofS all eb) := by
                    show _ ∈ _
                    rw [HLE.out]; exact hy ▸ List.getElem_mem hlj
                  have HAW := Lib.hid (addr_q ec.toNat xd.toNat ec.toNat_lt xd.toNat_lt)
                  clear hy d0 d1 c0 c1 c3
                  by_cases hsum : ec.toNat + xd.toNat < 9223372036854775808
                  · as_aux_lemma =>
                    rw [addV_lt hsum] at HAW
                    have HAT := Lib.hid (HNS.out.at_ HEM.out HXM.out hsum)
                    have HSC := Lib.hid fun (t : Nat) (ht : t < AL.length) (hh : AL[t].hub = xa) (b : Bool) hb => SeenC.cand (e := ⟨ea, eb, ec, ed⟩) (x := ⟨xa, xb, xd⟩) HNS.out.ris HSE.out ht hh b hb
                    simp only [] at HAT HSC
                    generalize ec.toNat + xd.toNat = s at *
                    clear hsum
                    go_wp2_with fail
                    go_quiet ((go_at_call 25; with_reducible exact Calls.quiet_of (HAW.out _)))
                    generalize hwq : World.drewN _ _ = wq
                    have HB6 : Hid (BsIn w4 S AL.length wq) := by show BsIn _ _ _ _; rw [← hwq]; exact HBS.out.ext (gr_drewN _ _ _)
                    clear hwq d2 c2 HBS
                    go_wp2
                    go_loopw [16] (fun i wz => ∃ t : Nat, t ≤ AL.length ∧ i = .int .i64 t ∧ Hid (∀ p (hp : p < AL.length), p < t → AL[p].hub ≠ xa) ∧ BsIn w4 S AL.length wz) (fun i _ => AL.length - (intOf i).toNat)
                    case atStart => exact ⟨0, by omega, rfl, Lib.hid (fun _ _ h => by omega), HB6.out⟩
                    case round =>
                      clear HB6
                      obtain ⟨t, ht, rfl, hno, hbs⟩ := hrel
                      have HBS := Lib.hid hbs
                      clear hbs
                      by_cases hlt2 : t < AL.length
                      · have := HA9.out (by omega)
                        subst this
                        rcases hz : AL[t] with ⟨za, zb, zc⟩
                        have HZ := Lib.hid hz
                        clear hz
                        obtain ⟨z0, z1, z2⟩ := at3L HC9.out HBS.out.gr hlt2 HZ.out
                        obtain ⟨d0, d1, d2⟩ := at3L HC3.out (gr_none HG4.out HBS.out.gr) hlj HY.out
                        clear d1 d2
                        by_cases he : za.toNat = xa.toNat
                        · as_aux_lemma =>
                          have hne : ((za.toNat : Int) != (xa.toNat : Int)) = false := by simp; omega
                          have hhub : AL[t].hub = xa := by rw [HZ.out]; exact UInt32.toNat_inj.1 he
                          have hnr := HAT.out.2 t hlt2 hhub
                          have HSC2 := Lib.hid (HSC.out t hlt2 hhub)
                          rw [HZ.out] at hnr HSC2
                          simp only [] at hnr HSC2
                          clear he hhub hno
                          go_wp2_with fail
                          go_quiet (fail)
                          generalize hwq : World.drewN _ _ = wq
                          have HB7 : Hid (BsIn w4 S AL.length wq) := by show BsIn _ _ _ _; rw [← hwq]; exact HBS.out.ext (gr_drewN _ _ _)
                          clear hwq z0 z1 z2 d0 HBS hne
                          obtain ⟨z0, z1, z2⟩ := at3L HC9.out HB7.out.gr hlt2 HZ.out
                          obtain ⟨c0, c1, c2, c3⟩ := at4E HC.out (gr_none HG4.out HB7.out.gr) hlt Hx.out
                          have hte : ((t : Int) == (AL.length : Int)) = false := by simp; omega
                          clear z0 c0 c2 c3
                          have hcs : (zc.toNat < s) ∨ (zc.toNat = s ∧ zb.toNat < eb.toNat) ∨ (zc.toNat = s ∧ zb.toNat = eb.toNat) := by omega
                          clear hnr
                          rcases hcs with h1 | ⟨h1, h2⟩ | ⟨h1, h2⟩
                          · as_aux_lemma =>
                            have hgt : ¬ s < zc.toNat := by omega
                            have heq : ((zc.toNat : Int) == (s : Int)) = false := by simp; omega
                            have HN := Lib.hid fun (b : Bool) (hb : b = true ∨ b = S t) => HSC2.out b (hb.imp id fun h => ⟨h, fun h2 => by omega⟩)
                            clear h1 
                            go_wp2_with fail
                            go_quiet (fail)
                            generalize hwq : World.drewN _ _ = wx
                            have HB8 : Hid (BsIn w4 S AL.length wx) := by show BsIn _ _ _ _; rw [← hwq]; exact HB7.out.ext (gr_drewN _ _ _)
                            clear hwq z1 z2 c1 HB7 hgt hte
                            obtain ⟨z0, z1, z2⟩ := at3L HC9.out HB8.out.gr hlt2 HZ.out
                            obtain ⟨c0, c1, c2, c3⟩ := at4E HC.out (gr_none HG4.out HB8.out.gr) hlt Hx.out
                            have hbc := HB8.out.cell hlt2
                            have hbf := HB8.out.frozen t
                            clear z0 c0 c2 c3
                            cases hst : S t
                            · as_aux_lemma =>
                              rw [hst] at hbc
                              have HSN := Lib.hid (HN.out false (.inr hst.symm))
                              go_wp2_with fail
                              go_still_tail 29, (by kernel_rfl)
                              change wpList _ _ _ _ _ wx.drew
                              have hbf2 : (wx.drew).frozen? ⟨w4.heap.size, t, none⟩ = false := hbf
                              have hbc2 : (wx.drew).cell? ⟨w4.heap.size, t, none⟩ = some (.bool false) := hbc
                              have HB9 : Hid (BsIn w4 S AL.length wx.drew) := HB8.out.ext (gr_drew _ _)
                              generalize wx.drew = wy at *
                              go_wp2
                              go_roundw
                              case rel => exact ⟨j + 1, _, by omega, by go_num, HB9.out.set t false, HSN.out.congr fun c => (HCL.out c).1⟩
                              case measure => simp [intOf]; omega
                            · as_aux_lemma =>
                              rw [hst] at hbc
                              have HSN := Lib.hid (HN.out true (.inl rfl))
                              go_wp2_with fail
                              go_still_tail 29, (by kernel_rfl)
                              change wpList _ _ _ _ _ wx.drew
                              have hbf2 : (wx.drew).frozen? ⟨w4.heap.size, t, none⟩ = false := hbf
                              have hbc2 : (wx.drew).cell? ⟨w4.heap.size, t, none⟩ = some (.bool true) := hbc
                              have HB9 : Hid (BsIn w4 S AL.length wx.drew) := HB8.out.ext (gr_drew _ _)
                              generalize wx.drew = wy at *
                              go_wp2
                              go_roundw
                              case rel => exact ⟨j + 1, _, by omega, by go_num, HB9.out.set t true, HSN.out.congr fun c => (HCL.out c).1⟩
                              case measure => simp [intOf]; omega
                          · as_aux_lemma =>
                            have hgt : ¬ s < zc.toNat := by omega
                            have heq : ((zc.toNat : Int) == (s : Int)) = true := by simp; omega
                            have HN := Lib.hid fun (b : Bool) (hb : b = true ∨ b = S t) => HSC2.out b (hb.imp id fun h => ⟨h, fun h3 => by omega⟩)
                            have hgt2 : ¬ eb.toNat < zb.toNat := by omega
                            have heq2 : ((zb.toNat : Int) == (eb.toNat : Int)) = false := by simp; omega
                            clear h1 h2
                            go_wp2_with fail
                            go_quiet (fail)
                            generalize hwq : World.drewN _ _ = wx
                            have HB8 : Hid (BsIn w4 S AL.length wx) := by show BsIn _ _ _ _; rw [← hwq]; exact HB7.out.ext (gr_drewN _ _ _)
                            clear hwq z1 z2 c1 HB7 hgt hte
                            obtain ⟨z0, z1, z2⟩ := at3L HC9.out HB8.out.gr hlt2 HZ.out
                            obtain ⟨c0, c1, c2, c3⟩ := at4E HC.out (gr_none HG4.out HB8.out.gr) hlt Hx.out
                            have hbc := HB8.out.cell hlt2
                            have hbf := HB8.out.frozen t
                            clear z0 c0 c2 c3
                            cases hst : S t
                            · as_aux_lemma =>
                              rw [hst] at hbc
                              have HSN := Lib.hid (HN.out false (.inr hst.symm))
                              go_wp2_with fail
                              go_still_tail 29, (by kernel_rfl)
                              change wpList _ _ _ _ _ wx.drew
                              have hbf2 : (wx.drew).frozen? ⟨w4.heap.size, t, none⟩ = false := hbf
                              have hbc2 : (wx.drew).cell? ⟨w4.heap.size, t, none⟩ = some (.bool false) := hbc
                              have HB9 : Hid (BsIn w4 S AL.length wx.drew) := HB8.out.ext (gr_drew _ _)
                              generalize wx.drew = wy at *
                              go_wp2
                              go_roundw
                              case rel => exact ⟨j + 1, _, by omega, by go_num, HB9.out.set t false, HSN.out.congr fun c => (HCL.out c).1⟩
                              case measure => simp [intOf]; omega
                            · as_aux_lemma =>
                              rw [hst] at hbc
                              have HSN := Lib.hid (HN.out true (.inl rfl))
                              go_wp2_with fail
                              go_still_tail 29, (by kernel_rfl)
                              change wpList _ _ _ _ _ wx.drew
                              have hbf2 : (wx.drew).frozen? ⟨w4.heap.size, t, none⟩ = false := hbf
                              have hbc2 : (wx.drew).cell? ⟨w4.heap.size, t, none⟩ = some (.bool true) := hbc
                              have HB9 : Hid (BsIn w4 S AL.length wx.drew) := HB8.out.ext (gr_drew _ _)
                              generalize wx.drew = wy at *
                              go_wp2
                              go_roundw
                              case rel => exact ⟨j + 1, _, by omega, by go_num, HB9.out.set t true, HSN.out.congr fun c => (HCL.out c).1⟩
                              case measure => simp [intOf]; omega
                          · as_aux_lemma =>
                            have hgt : ¬ s < zc.toNat := by omega
                            have heq : ((zc.toNat : Int) == (s : Int)) = true := by simp; omega
                            have HN := Lib.hid fun (b : Bool) (hb : b = true) => HSC2.out b (.inl hb)
                            have hgt2 : ¬ eb.toNat < zb.toNat := by omega
                            have heq2 : ((zb.toNat : Int) == (eb.toNat : Int)) = true := by simp; omega
                            clear h1 h2
                            go_wp2_with fail
                            go_quiet (fail)
                            generalize hwq : World.drewN _ _ = wx
                            have HB8 : Hid (BsIn w4 S AL.length wx) := by show BsIn _ _ _ _; rw [← hwq]; exact HB7.out.ext (gr_drewN _ _ _)
                            clear hwq z1 z2 c1 HB7 hgt hte
                            obtain ⟨z0, z1, z2⟩ := at3L HC9.out HB8.out.gr hlt2 HZ.out
                            obtain ⟨c0, c1, c2, c3⟩ := at4E HC.out (gr_none HG4.out HB8.out.gr) hlt Hx.out
                            have hbc := HB8.out.cell hlt2
                            have hbf := HB8.out.frozen t
                            clear z0 c0 c2 c3
                            cases hst : S t
                            · as_aux_lemma =>
                              rw [hst] at hbc
                              have HSN := Lib.hid (HN.out true rfl)
                              go_wp2_with fail
                              go_still_tail 29, (by kernel_rfl)
                              change wpList _ _ _ _ _ wx.drew
                              have hbf2 : (wx.drew).frozen? ⟨w4.heap.size, t, none⟩ = false := hbf
                              have hbc2 : (wx.drew).cell? ⟨w4.heap.size, t, none⟩ = some (.bool false) := hbc
                              have HB9 : Hid (BsIn w4 S AL.length wx.drew) := HB8.out.ext (gr_drew _ _)
                              generalize wx.drew = wy at *
                              go_wp2
                              go_roundw
                              case rel => exact ⟨j + 1, _, by omega, by go_num, HB9.out.set t true, HSN.out.congr fun c => (HCL.out c).1⟩
                              case measure => simp [intOf]; omega
                            · as_aux_lemma =>
                              rw [hst] at hbc
                              have HSN := Lib.hid (HN.out true rfl)
                              go_wp2_with fail
                              go_still_tail 29, (by kernel_rfl)
                              change wpList _ _ _ _ _ wx.drew
                              have hbf2 : (wx.drew).frozen? ⟨w4.heap.size, t, none⟩ = false := hbf
                              have hbc2 : (wx.drew).cell? ⟨w4.heap.size, t, none⟩ = some (.bool true) := hbc
                              have HB9 : Hid (BsIn w4 S AL.length wx.drew) := HB8.out.ext (gr_drew _ _)
                              generalize wx.drew = wy at *
                              go_wp2
                              go_roundw
                              case rel => exact ⟨j + 1, _, by omega, by go_num, HB9.out.set t true, HSN.out.congr fun c => (HCL.out c).1⟩
                              case measure => simp [intOf]; omega
                        · as_aux_lemma =>
                          have hne : ((za.toNat : Int) != (xa.toNat : Int)) = true := by rw [bne_iff_ne]; omega
                          have HNO : Hid (∀ p (hp : p < AL.length), p < t + 1 → AL[p].hub ≠ xa) := fun p hp h1 => by
                            by_cases e : p = t
                            · subst e; rw [HZ.out]; exact fun h => he (by rw [← h])
                            · exact hno.out p hp (by omega)
                          clear hno he
                          go_wp2_with fail
                          go_quiet (fail)
                          go_wp2
                          go_roundw
                          case rel => exact ⟨t + 1, by omega, by go_num, HNO, HBS.out.ext (gr_drewN _ _ _)⟩
                          case measure => simp [intOf]; omega
                      · obtain ⟨p, hp, h1⟩ := HAT.out.1
                        exact absurd h1 (hno.out p hp (by omega))
                  · as_aux_lemma =>
                    rw [addV_ge hsum] at HAW
                    have HSN : Hid (SeenC AL (CandTo v up (ofS all) k (j + 1)) S) := HSE.out.congr fun c hc => ((HCL.out c).1 hc).resolve_right fun h => hsum h.1
                    clear hsum HSE
                    go_wp2_with fail
                    go_quiet ((go_at_call 25; with_reducible exact Calls.quiet_of (HAW.out _)))
                    generalize hwq : World.drewN _ _ = wq
                    have HB6 : Hid (BsIn w4 S AL.length wq) := by show BsIn _ _ _ _; rw [← hwq]; exact HBS.out.ext (gr_drewN _ _ _)
                    clear hwq d2 c2 HBS
                    go_wp2
                    go_loopw [16] (fun i wz => ∃ t : Nat, t ≤ AL.length ∧ i = .int .i64 t ∧ BsIn w4 S AL.length wz) (fun i _ => AL.length - (intOf i).toNat)
                    case atStart => exact ⟨0, by omega, rfl, HB6.out⟩
                    case round =>
                      clear HB6
                      obtain ⟨t, ht, rfl, hbs⟩ := hrel
                      have HBS := Lib.hid hbs
                      clear hbs
                      by_cases hlt2 : t < AL.length
                      · have := HA9.out (by omega)
                        subst this
                        rcases hz : AL[t] with ⟨za, zb, zc⟩
                        obtain ⟨z0, z1, z2⟩ := at3L HC9.out HBS.out.gr hlt2 hz
                        obtain ⟨d0, d1, d2⟩ := at3L HC3.out (gr_none HG4.out HBS.out.gr) hlj HY.out
                        clear d1 d2 hz
                        by_cases he : za.toNat = xa.toNat
                        · as_aux_lemma =>
                          have hne : ((za.toNat : Int) != (xa.toNat : Int)) = false := by simp; omega
                          clear he
                          go_wp2_with fail
                          go_quiet (fail)
                          go_wp2
                          go_roundw
                          case rel => exact ⟨j + 1, S, by omega, by go_num, HBS.out.ext (gr_drewN _ _ _), HSN⟩
                          case measure => simp [intOf]; omega
                        · as_aux_lemma =>
                          have hne : ((za.toNat : Int) != (xa.toNat : Int)) = true := by rw [bne_iff_ne]; omega
                          clear he
                          go_wp2_with fail
                          go_quiet (fail)
                          go_wp2
                          go_roundw
                          case rel => exact ⟨t + 1, by omega, by go_num, HBS.out.ext (gr_drewN _ _ _)⟩
                          case measure => simp [intOf]; omega
                      · have hge : ¬ t < AL.length := hlt2
                        go_wp2_with fail
                        go_quiet (fail)
                        go_wp2
                        go_roundw
                        case rel => exact ⟨j + 1, S, by omega, by go_num, HBS.out.ext (gr_drewN _ _ _), HSN⟩
                        case measure => simp [intOf]; omega
                · obtain rfl : j = L.length := by omega
                  have HSN : Hid (SeenC AL (CandTo v up (ofS all) (k + 1) 0) S) := HSE.out.congr fun c hc => by
                    have h := (CandTo.edge hlt Hx.out c).1 hc
                    have e : (ofS all (⟨ea, eb, ec, ed⟩ : Ed).h).length = L.length := by rw [← HLE.out]
                    rw [e] at h
                    exact h
                  clear HSE
                  go_wp2
                  go_roundw
                  case rel => exact ⟨k + 1, S, by omega, by go_num, HBS.out, HSN⟩
                  case measure => simp [intOf]; omega
            · as_aux_lemma =>
              obtain rfl : k = up.length := by omega
              have HST : Hid (∀ t, t < AL.length → S t = true) := fun t ht => HSE.out t ht (CandTo.all.2 (HNS.out.mem t ht))
              have HOW := Lib.hid HNS.out.own
              clear HSE
              go_wp2
              go_loopw [18, 17] (fun i o wr => ∃ (k : Nat) (b : Bool), k ≤ AL.length ∧ i = .int .i64 k ∧ o = .bool b ∧ Hid (∀ t (h : t < AL.length), t < k → AL[t].hub = v → AL[t].dist.toNat = 0 → b = true) ∧ BsIn w4 S AL.length wr) (fun i _ _ => AL.length - (intOf i).toNat)
              case atStart => exact ⟨0, false, by omega, rfl, rfl, Lib.hid (fun _ _ h => by omega), HBS.out⟩
              case round =>
                clear HBS
                obtain ⟨k, b, hk, rfl, rfl, hb, hbs⟩ := hrel
                have HBS := Lib.hid hbs
                clear hbs
                by_cases hlt2 : k < AL.length
                · have := HA9.out (by omega)
                  subst this
                  rcases hz : AL[k] with ⟨za, zb, zc⟩
                  have HZ := Lib.hid hz
                  obtain ⟨z0, z1, z2⟩ := at3L HC9.out HBS.out.gr hlt2 hz
                  have hbc := HBS.out.cell hlt2
                  rw [HST.out k hlt2] at hbc
                  clear hz z1
                  have HNB : Hid (∀ b' : Bool, (b = true → b' = true) → (za.toNat = v.toNat → zc.toNat = 0 → b' = true) → ∀ t (h : t < AL.length), t < k + 1 → AL[t].hub = v → AL[t].dist.toNat = 0 → b' = true) := fun b' h1 h2 t ht hl hv hd => by
                    by_cases e : t = k
                    · subst e
                      rw [HZ.out] at hv hd
                      exact h2 (by rw [← hv]) hd
                    · exact h1 (hb.out t ht (by omega) hv hd)
                  clear hb
                  cases b
                  · as_aux_lemma =>
                    by_cases e1 : za.toNat = v.toNat
                    · have b1 : ((za.toNat : Int) == (v.toNat : Int)) = true := by simp; omega
                      by_cases e2 : zc.toNat = 0
                      · have b2 : ((zc.toNat : Int) == 0) = true := by simp; omega
                        have HN := Lib.hid (HNB.out true (fun _ => rfl) fun _ _ => rfl)
                        clear e1 e2
                        go_wp2
                        go_roundw
                        case rel => exact ⟨k + 1, _, by omega, by go_num, rfl, HN, HBS.out⟩
                        case measure => simp [intOf]; omega
                      · have b2 : ((zc.toNat : Int) == 0) = false := by simp; omega
                        have HN := Lib.hid (HNB.out false (fun h => h) fun _ h => absurd h e2)
                        clear e1 e2
                        go_wp2
                        go_roundw
                        case rel => exact ⟨k + 1, _, by omega, by go_num, rfl, HN, HBS.out⟩
                        case measure => simp [intOf]; omega
                    · have b1 : ((za.toNat : Int) == (v.toNat : Int)) = false := by simp; omega
                      have HN := Lib.hid (HNB.out false (fun h => h) fun h => absurd h e1)
                      clear e1
                      go_wp2
                      go_roundw
                      case rel => exact ⟨k + 1, _, by omega, by go_num, rfl, HN, HBS.out⟩
                      case measure => simp [intOf]; omega
                  · as_aux_lemma =>
                    have HN := Lib.hid (HNB.out true (fun _ => rfl) fun _ _ => rfl)
                    go_wp2
                    go_roundw
                    case rel => exact ⟨k + 1, _, by omega, by go_num, rfl, HN, HBS.out⟩
                    case measure => simp [intOf]; omega
                · as_aux_lemma =>
                  obtain rfl : k = AL.length := by omega
                  obtain ⟨t, ht, hv, hd⟩ := HOW.out
                  obtain rfl : b = true := hb.out t ht ht hv hd
                  clear ht hv hd hb
                  go_wp2_with fail
                  refine (HW.out _).mono ?_
                  rintro e w9 ⟨rfl, g9⟩
                  have G9 := Lib.hid (gr_none (gr_none HG4.out HBS.out.gr) g9)
                  clear g9
                  go_wp2
                  go_ret
                  exact ⟨rfl, G9.out⟩
    · go_wp2_with fail
      refine (HW.out _).mono ?_
      rintro e w3 ⟨rfl, g3⟩
      have G3 := Lib.hid (gr_none G1.out g3)
      clear g3
      go_wp2
      go_ret
      exact ⟨rfl, G3.out⟩
  · have hgt : 40 < up.length := by omega
    go_enter Try.func5, Try.ntmps5
    go_wp2_with fail
    refine HLG.out.mono ?_
    rintro e w1 ⟨⟨b, rfl, hb⟩, g1⟩
    have G1 := Lib.hid g1
    clear hb g1
    cases b
    all_goals
      go_wp2_with fail
      refine (HW.out _).mono ?_
      rintro e w3 ⟨rfl, g3⟩
      have G3 := Lib.hid (gr_none G1.out g3)
      clear g3
      go_wp2
      go_ret
      exact ⟨rfl, G3.out⟩
end Go.Proofs.Ytfgkmimhibpceaa
