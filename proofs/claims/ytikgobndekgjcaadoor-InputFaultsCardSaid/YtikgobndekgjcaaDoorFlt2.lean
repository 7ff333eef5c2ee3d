/-
  InputFaults, the walk: the number 2 of a row is turned.
-/
import Derived.Test.YtikgobndekgjcaaDoorFlt1
namespace Go.Proofs.YtikgobndekgjcaaDoor
open Go.RowKit
set_option maxRecDepth 100000
set_option maxHeartbeats 400000

set_option maxHeartbeats 4000000 in
theorem faults2 (n : UInt32) (vl : Value) (at_ wh : UInt16) (X : UInt64) (l : List Ed) (w : World) (hg : Glob w) (h : RdE w vl l) (hl : l.length ≤ 1024) (hl0 : 0 < l.length) (hok : writeOk n l = true) (hwh : wh.toNat % 3 = 2) :
    Calls Tryd.prog 7 #[.int .u32 n.toNat, vl, .agg #[.int .u16 at_.toNat, .int .u16 wh.toNat, .int .u64 X.toNat]] w fun e w' => e = .returned (.bool true) ∧ w.grownBy w' none := by
  obtain ⟨Al, cl, rfl⟩ := h.form
  have Hg := Lib.hid hg
  have HL := Lib.hid h
  have Hok := Lib.hid hok
  clear hg h hok
  have Ga := Lib.hid (gr_alloc w (.cells #[.int .u16 at_.toNat, .int .u16 wh.toNat, .int .u64 X.toNat] 46) none)
  have Ka := Lib.hid (Blk.new w 46 #[.int .u16 at_.toNat, .int .u16 wh.toNat, .int .u64 X.toNat])
  have Hw := Lib.hid (write_any n _ l _ (HL.out.ext Ga.out) (by omega))
  have hXl := X.toNat_lt
  have hnl := n.toNat_lt
  have hal := at_.toNat_lt
  have hwl := wh.toNat_lt
  obtain ⟨k, hk⟩ : ∃ k, k = at_.toNat % l.length := ⟨_, rfl⟩
  have hkl : k < l.length := by rw [hk]; exact Nat.mod_lt _ hl0
  have hkm : ((at_.toNat : Int) % (l.length : Int)) = (k : Int) := by rw [hk]; simp
  have hwm : ((wh.toNat : Int) % 3) = 2 := by omega
  obtain ⟨b, hb⟩ : ∃ b, b = inputB n l ++ l.flatMap Ed.row := ⟨_, rfl⟩
  have hbl : b.length = 12 + 16 * l.length := by rw [hb]; exact length_written n l
  have Hbl := Lib.hid hbl
  have Hb := Lib.hid hb
  have hz0 : ((l.length : Int) == 0) = false := by rw [beq_eq_false_iff_ne]; omega
  clear hk hb hbl hwh
  rcases hx : l[k] with ⟨xt, xh, xw, xm⟩
  have Hx := Lib.hid hx
  clear hx
  go_enter Tryd.func7, Tryd.ntmps7
  go_wp2_with fail
  refine Hw.out.mono ?_
  rintro e w1 ⟨r1, g1⟩
  obtain ⟨A1, c1, rfl, o1⟩ := resW_ok Hok.out r1
  rw [← Hb.out] at o1
  have O1 := Lib.hid o1
  have G1 := Lib.hid g1
  have c1' := (Ka.out.ext g1).cell
  clear o1 g1 r1
  go_wp2_with fail
  simp only [hkm]
  go_loopw [13] (fun i wr => ∃ j : Nat, j ≤ 8 ∧ i = .int .i64 j ∧ OwnB wr (w.heap.size + 1) (.slice A1 (12 + 16 * l.length) c1) (patch b (12 + 16 * k + 8) (le X.toNat j)) ∧ (w.alloc (.cells #[.int .u16 at_.toNat, .int .u16 wh.toNat, .int .u64 X.toNat] 46)).grownBy wr none) (fun i _ => 8 - (intOf i).toNat)
  case atStart =>
    refine ⟨0, by omega, rfl, ?_, G1.out⟩
    have := O1.out
    rw [World.size_alloc] at this
    simpa [patch_nil, le] using this
  case round =>
    obtain ⟨j, hj, rfl, hown, hgr⟩ := hrel
    have Kr := (Ka.out.ext hgr).cell
    by_cases hjl : j < 8
    · obtain ⟨g, off, rfl, hBg, hnl', hnc, ⟨u, hcell⟩, hfr, hset⟩ := patch_step hown (by rw [Hbl.out]; omega)
      have hbv := byteAt_val X.toNat j
      have Hset := Lib.hid hset
      have Hgr := Lib.hid hgr
      clear hset hown hgr hnl'
      go_wp2
      go_roundw
      case rel => exact ⟨j + 1, by omega, by go_num, Hset.out, gr_set_new Hgr.out _ _ (by simpa using hBg)⟩
      case measure => simp [intOf]; omega
    · obtain rfl : j = 8 := by omega
      obtain ⟨hr1, hr2, hr3⟩ := rowOk_iff.1 (List.all_eq_true.1 (writeOk_iff.1 Hok.out).2.2.2 l[k] (List.getElem_mem hkl))
      rw [Hx.out] at hr1 hr2 hr3
      simp only at hr1 hr2 hr3
      have hn0 : 0 < n.toNat := by omega
      have hfq := fits_quo n X hn0
      have hpw : patch b (12 + 16 * k + 8) (le X.toNat 8) = inputB n (l.set k ⟨xt, xh, X, xm⟩) ++ (l.set k ⟨xt, xh, X, xm⟩).flatMap Ed.row := by
        rw [Hb.out]
        exact patch_written n l hkl (q := 4 * 2) (L := le X.toNat 8) (by rw [length_le]; omega) _ (by rw [Hx.out]; exact patch_w ⟨xt, xh, xw, xm⟩ X)
      rw [hpw] at hown
      have hlen' : (inputB n (l.set k ⟨xt, xh, X, xm⟩) ++ (l.set k ⟨xt, xh, X, xm⟩).flatMap Ed.row).length ≤ 1000000000 := by rw [length_written, List.length_set]; omega
      have G2 := Lib.hid (gr_none Ga.out hgr)
      have hc := Check_any _ _ wr (Hg.out.ext G2.out) hown.rd hlen'
      unfold ResC4 at hc
      have Hg2 := Lib.hid hgr
      clear hpw hlen' hown hgr O1 Hw
      by_cases hv : fits n X = false
      · rw [check_turned_bad Hok.out hkl (bad_w hr1 hr2 hv)] at hc
        simp only [Flt.e, Flt.p, Option.getD] at hc
        have Hc := Lib.hid hc
        clear hc
        rw [hv] at hfq
        have hq : (9223372036854775807 : Int) / (n.toNat : Int) < (X.toNat : Int) := by simpa using hfq.symm
        clear hfq hv
        by_cases h63 : (9223372036854775808 : Int) ≤ (X.toNat : Int)
        · have kk := (Ka.out.ext Hg2.out).cell
          go_wp2_with fail
          refine Hc.out.mono ?_
          rintro e w3 ⟨⟨v3, rfl, o3⟩, g3⟩
          obtain ⟨A3, c3, rfl⟩ := o3.rd.form
          simp only [List.length_nil]
          have c4 := (Ka.out.ext (gr_none Hg2.out g3)).cell
          go_wp2_with (go_at_call 14; refine (works_any _ (Hg.out.ext (gr_none G2.out g3))).mono ?_; rintro e w5 ⟨rfl, g5⟩)
          go_ret
          exact ⟨rfl, gr_none (gr_none G2.out g3) g5⟩
        · have kk := (Ka.out.ext Hg2.out).cell
          go_wp2_with fail
          refine Hc.out.mono ?_
          rintro e w3 ⟨⟨v3, rfl, o3⟩, g3⟩
          obtain ⟨A3, c3, rfl⟩ := o3.rd.form
          simp only [List.length_nil]
          have c4 := (Ka.out.ext (gr_none Hg2.out g3)).cell
          go_wp2_with (go_at_call 14; refine (works_any _ (Hg.out.ext (gr_none G2.out g3))).mono ?_; rintro e w5 ⟨rfl, g5⟩)
          go_ret
          exact ⟨rfl, gr_none (gr_none G2.out g3) g5⟩
      · rw [check_turned Hok.out (rowOk_iff.2 ⟨hr1, hr2, by simpa using hv⟩)] at hc
        simp only [Flt.e, Flt.p, Option.getD] at hc
        have hll : ((l.set k ⟨xt, xh, X, xm⟩).map Ed.fix).length = l.length := by rw [List.length_map, List.length_set]
        have hla : ∀ h, ((l.set k ⟨xt, xh, X, xm⟩).map Ed.fix)[k]'h = ⟨xt, xh, X, 4294967295⟩ := fun h => by rw [List.getElem_map, List.getElem_set_self]; rfl
        generalize (l.set k ⟨xt, xh, X, xm⟩).map Ed.fix = l' at *
        have Hla := Lib.hid hla
        have hl1 : l'.length ≤ l.length := by omega
        have hl2 : l.length ≤ l'.length := by omega
        have Hc := Lib.hid hc
        clear hc hla hll
        have hfx : fits n X = true := by simpa using hv
        have h63 : (X.toNat : Int) < (9223372036854775808 : Int) := by unfold fits at hfx; simp at hfx; have := Nat.lt_of_le_of_lt (Nat.le_mul_of_pos_left X.toNat hn0) hfx; omega
        rw [hfx] at hfq
        have hq : (X.toNat : Int) ≤ 9223372036854775807 / (n.toNat : Int) := by simpa using hfq.symm
        have hd1 : decide ((9223372036854775808 : Int) ≤ (X.toNat : Int)) = false := by simp only [decide_eq_false_iff_not]; omega
        have hd2 : decide ((9223372036854775807 : Int) / (n.toNat : Int) < (X.toNat : Int)) = false := by simp only [decide_eq_false_iff_not]; omega
        clear hfq hv hfx hq h63
        go_wp2_with fail
        refine Hc.out.mono ?_
        rintro e w3 ⟨⟨v3, rfl, o3⟩, g3⟩
        obtain ⟨A3, c3, rfl⟩ := o3.rd.form
        obtain ⟨g3', off3, hA3, hcs3⟩ := o3.rd.at_
        obtain rfl := hA3 (by omega)
        obtain ⟨d0, d1, d2, d3⟩ := at4 hcs3 (gr_refl _ none) (by omega) (Hla.out (by omega))
        have hcap3 := o3.cap
        have hbe : ((l'.length : Int) != (l.length : Int)) = false := by rw [bne_eq_false_iff_eq]; omega
        have c4 := (Ka.out.ext (gr_none Hg2.out g3)).cell
        have G3 := Lib.hid (gr_none (gr_none G2.out g3) (gr_alloc w3 (.cells #[.int .u32 xt.toNat, .int .u32 xh.toNat, .int .u64 X.toNat, .int .u32 (4294967295 : UInt32).toNat] 34) none))
        have k4 := (Blk.new w3 34 #[.int .u32 xt.toNat, .int .u32 xh.toNat, .int .u64 X.toNat, .int .u32 (4294967295 : UInt32).toNat]).cell
        clear o3 hcs3 hA3 g3
        go_wp2_with (go_at_call 14; refine (works_any _ (Hg.out.ext G3.out)).mono ?_; rintro e w5 ⟨rfl, g5⟩)
        go_ret
        exact ⟨rfl, gr_none G3.out g5⟩
end Go.Proofs.YtikgobndekgjcaaDoor
