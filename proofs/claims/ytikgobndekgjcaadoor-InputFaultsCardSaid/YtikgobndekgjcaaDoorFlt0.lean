/-
  InputFaults, the walk: the number 0 of a row is turned.
-/
import Derived.Test.YtikgobndekgjcaaDoorPat
namespace Go.Proofs.YtikgobndekgjcaaDoor
open Go.RowKit
set_option maxRecDepth 100000
set_option maxHeartbeats 400000

theorem mod_u32 (X : UInt64) : ((UInt32.ofNat X.toNat).toNat : Int) = (X.toNat : Int) % 4294967296 := by
  simp
/-- a byte is laid behind those that were. -/
theorem patch_step {wr : World} {B n c : Nat} {A : Option Addr} {b : List UInt8} {p j X : Nat} (h : OwnB wr B (.slice A n c) (patch b p (le X j))) (hj : p + j < b.length) :
    ∃ g off, A = some ⟨g, off, none⟩ ∧ B ≤ g ∧ n = b.length ∧ n ≤ c ∧ (∃ u, wr.cell? ⟨g, off + (p + j), none⟩ = some u) ∧ wr.frozen? ⟨g, off + (p + j), none⟩ = false ∧
      OwnB (wr.setCell ⟨g, off + (p + j), none⟩ (.int .u8 (byteAt X j).toNat)) B (.slice A n c) (patch b p (le X (j + 1))) := by
  have hl : (patch b p (le X j)).length = b.length := patch_len (by rw [length_le]; omega)
  obtain ⟨g, off, hA, hB, hn, hc, hcell, hf, hset⟩ := h.at_ (k := p + j) (by omega)
  refine ⟨g, off, hA, hB, by omega, hc, ⟨_, hcell⟩, hf, ?_⟩
  have := hset (byteAt X j)
  have e : (patch b p (le X j)).set (p + j) (byteAt X j) = patch b p (le X (j + 1)) := by
    have := patch_set (b := b) (p := p) (L := le X j) (by rw [length_le]; exact hj) (byteAt X j)
    rw [length_le] at this
    rw [this, le_succ]
  rwa [e] at this

set_option maxHeartbeats 4000000 in
theorem faults0 (n : UInt32) (vl : Value) (at_ wh : UInt16) (X : UInt64) (l : List Ed) (w : World) (hg : Glob w) (h : RdE w vl l) (hl : l.length ≤ 1024) (hl0 : 0 < l.length) (hok : writeOk n l = true) (hwh : wh.toNat % 3 = 0) :
    Calls Tryd.prog 7 #[.int .u32 n.toNat, vl, .agg #[.int .u16 at_.toNat, .int .u16 wh.toNat, .int .u64 X.toNat]] w fun e w' => e = .returned (.bool true) ∧ w.grownBy w' none := by
  obtain ⟨Al, cl, rfl⟩ := h.form
  have Hg := Lib.hid hg
  have HL := Lib.hid h
  have Hok := Lib.hid hok
  clear hg h hok
  have Ga := Lib.hid (gr_alloc w (.cells #[.int .u16 at_.toNat, .int .u16 wh.toNat, .int .u64 X.toNat] 46) none)
  have Ka := Lib.hid (Blk.new w 46 #[.int .u16 at_.toNat, .int .u16 wh.toNat, .int .u64 X.toNat])
  have Hw := Lib.hid (write_any n _ l _ (HL.out.ext Ga.out) (by omega))
  have hXl := X.toNat_lt
  have hnl := n.toNat_lt
  have hal := at_.toNat_lt
  have hwl := wh.toNat_lt
  obtain ⟨k, hk⟩ : ∃ k, k = at_.toNat % l.length := ⟨_, rfl⟩
  have hkl : k < l.length := by rw [hk]; exact Nat.mod_lt _ hl0
  have hkm : ((at_.toNat : Int) % (l.length : Int)) = (k : Int) := by rw [hk]; simp
  have hwm : ((wh.toNat : Int) % 3) = 0 := by omega
  obtain ⟨b, hb⟩ : ∃ b, b = inputB n l ++ l.flatMap Ed.row := ⟨_, rfl⟩
  have hbl : b.length = 12 + 16 * l.length := by rw [hb]; exact length_written n l
  have Hbl := Lib.hid hbl
  have Hb := Lib.hid hb
  have hz0 : ((l.length : Int) == 0) = false := by rw [beq_eq_false_iff_ne]; omega
  clear hk hb hbl hwh
  rcases hx : l[k] with ⟨xt, xh, xw, xm⟩
  have Hx := Lib.hid hx
  clear hx
  go_enter Tryd.func7, Tryd.ntmps7
  go_wp2_with fail
  refine Hw.out.mono ?_
  rintro e w1 ⟨r1, g1⟩
  obtain ⟨A1, c1, rfl, o1⟩ := resW_ok Hok.out r1
  rw [← Hb.out] at o1
  have O1 := Lib.hid o1
  have G1 := Lib.hid g1
  have c1' := (Ka.out.ext g1).cell
  clear o1 g1 r1
  go_wp2_with fail
  simp only [hkm]
  go_loopw [13] (fun i wr => ∃ j : Nat, j ≤ 4 ∧ i = .int .i64 j ∧ OwnB wr (w.heap.size + 1) (.slice A1 (12 + 16 * l.length) c1) (patch b (12 + 16 * k) (le X.toNat j)) ∧ (w.alloc (.cells #[.int .u16 at_.toNat, .int .u16 wh.toNat, .int .u64 X.toNat] 46)).grownBy wr none) (fun i _ => 4 - (intOf i).toNat)
  case atStart =>
    refine ⟨0, by omega, rfl, ?_, G1.out⟩
    have := O1.out
    rw [World.size_alloc] at this
    simpa [patch_nil, le] using this
  case round =>
    obtain ⟨j, hj, rfl, hown, hgr⟩ := hrel
    have Kr := (Ka.out.ext hgr).cell
    by_cases hjl : j < 4
    · obtain ⟨g, off, rfl, hBg, hnl', hnc, ⟨u, hcell⟩, hfr, hset⟩ := patch_step hown (by rw [Hbl.out]; omega)
      have hbv := byteAt_val X.toNat j
      have Hset := Lib.hid hset
      have Hgr := Lib.hid hgr
      clear hset hown hgr hnl'
      go_wp2
      go_roundw
      case rel => exact ⟨j + 1, by omega, by go_num, Hset.out, gr_set_new Hgr.out _ _ (by simpa using hBg)⟩
      case measure => simp [intOf]; omega
    · obtain rfl : j = 4 := by omega
      obtain ⟨hr1, hr2, hr3⟩ := rowOk_iff.1 (List.all_eq_true.1 (writeOk_iff.1 Hok.out).2.2.2 l[k] (List.getElem_mem hkl))
      rw [Hx.out] at hr1 hr2 hr3
      simp only at hr1 hr2 hr3
      obtain ⟨T, hTe⟩ : ∃ T, T = UInt32.ofNat X.toNat := ⟨_, rfl⟩
      have hT : (X.toNat : Int) % 4294967296 = (T.toNat : Int) := by rw [hTe]; exact (mod_u32 X).symm
      have HTe := Lib.hid hTe
      clear hTe
      have hpw : patch b (12 + 16 * k) (le X.toNat 4) = inputB n (l.set k ⟨T, xh, xw, xm⟩) ++ (l.set k ⟨T, xh, xw, xm⟩).flatMap Ed.row := by
        rw [Hb.out]
        exact patch_written n l hkl (q := 4 * 0) (L := le X.toNat 4) (by rw [length_le]; omega) _ (by rw [Hx.out]; rw [HTe.out]; exact patch_t ⟨xt, xh, xw, xm⟩ X.toNat)
      rw [hpw] at hown
      have hlen' : (inputB n (l.set k ⟨T, xh, xw, xm⟩) ++ (l.set k ⟨T, xh, xw, xm⟩).flatMap Ed.row).length ≤ 1000000000 := by rw [length_written, List.length_set]; omega
      have G2 := Lib.hid (gr_none Ga.out hgr)
      have hc := Check_any _ _ wr (Hg.out.ext G2.out) hown.rd hlen'
      unfold ResC4 at hc
      have Hg2 := Lib.hid hgr
      clear hpw hlen' hown hgr O1 Hw
      by_cases hv : n.toNat ≤ T.toNat
      · rw [check_turned_bad Hok.out hkl (bad_t hv)] at hc
        simp only [Flt.e, Flt.p, Option.getD] at hc
        have Hc := Lib.hid hc
        clear hc
        have kk := (Ka.out.ext Hg2.out).cell
        go_wp2_with fail
        refine Hc.out.mono ?_
        rintro e w3 ⟨⟨v3, rfl, o3⟩, g3⟩
        obtain ⟨A3, c3, rfl⟩ := o3.rd.form
        simp only [List.length_nil]
        have c4 := (Ka.out.ext (gr_none Hg2.out g3)).cell
        go_wp2_with (go_at_call 14; refine (works_any _ (Hg.out.ext (gr_none G2.out g3))).mono ?_; rintro e w5 ⟨rfl, g5⟩)
        go_ret
        exact ⟨rfl, gr_none (gr_none G2.out g3) g5⟩
      · rw [check_turned Hok.out (rowOk_iff.2 ⟨by simp only; omega, hr2, hr3⟩)] at hc
        simp only [Flt.e, Flt.p, Option.getD] at hc
        have hll : ((l.set k ⟨T, xh, xw, xm⟩).map Ed.fix).length = l.length := by rw [List.length_map, List.length_set]
        have hla : ∀ h, ((l.set k ⟨T, xh, xw, xm⟩).map Ed.fix)[k]'h = ⟨T, xh, xw, 4294967295⟩ := fun h => by rw [List.getElem_map, List.getElem_set_self]; rfl
        generalize (l.set k ⟨T, xh, xw, xm⟩).map Ed.fix = l' at *
        have Hla := Lib.hid hla
        have hl1 : l'.length ≤ l.length := by omega
        have hl2 : l.length ≤ l'.length := by omega
        have Hc := Lib.hid hc
        clear hc hla hll
        go_wp2_with fail
        refine Hc.out.mono ?_
        rintro e w3 ⟨⟨v3, rfl, o3⟩, g3⟩
        obtain ⟨A3, c3, rfl⟩ := o3.rd.form
        obtain ⟨g3', off3, hA3, hcs3⟩ := o3.rd.at_
        obtain rfl := hA3 (by omega)
        obtain ⟨d0, d1, d2, d3⟩ := at4 hcs3 (gr_refl _ none) (by omega) (Hla.out (by omega))
        have hcap3 := o3.cap
        have hbe : ((l'.length : Int) != (l.length : Int)) = false := by rw [bne_eq_false_iff_eq]; omega
        have c4 := (Ka.out.ext (gr_none Hg2.out g3)).cell
        have G3 := Lib.hid (gr_none (gr_none G2.out g3) (gr_alloc w3 (.cells #[.int .u32 T.toNat, .int .u32 xh.toNat, .int .u64 xw.toNat, .int .u32 (4294967295 : UInt32).toNat] 34) none))
        have k4 := (Blk.new w3 34 #[.int .u32 T.toNat, .int .u32 xh.toNat, .int .u64 xw.toNat, .int .u32 (4294967295 : UInt32).toNat]).cell
        clear o3 hcs3 hA3 g3
        go_wp2_with (go_at_call 14; refine (works_any _ (Hg.out.ext G3.out)).mono ?_; rintro e w5 ⟨rfl, g5⟩)
        go_ret
        exact ⟨rfl, gr_none G3.out g5⟩
end Go.Proofs.YtikgobndekgjcaaDoor
