/-
  A disk: Cut.
-/
import Derived.Test.YtfbbbbekialpnaaDw5
import Derived.Deep.RegionHeld3
import Derived.Deep.RegionLaw
namespace Go.Proofs.Ytfbbbbekialpnaa
open Go.RowKit
set_option maxRecDepth 100000
set_option maxHeartbeats 400000

theorem setF_setF {fs : List Fi} {n : List UInt8} {g1 g2 g3 : Fi → Fi} (h1 : ∀ f, (g1 f).name = f.name) (h : ∀ f, g2 (g1 f) = g3 f) : setF (setF fs n g1) n g2 = setF fs n g3 := by
  unfold setF
  rw [List.map_map]
  refine List.map_congr_left fun f _ => ?_
  show (if (if f.name = n then g1 f else f).name = n then g2 (if f.name = n then g1 f else f) else (if f.name = n then g1 f else f)) = _
  by_cases e : f.name = n
  · rw [if_pos e, if_pos (by rw [h1]; exact e), if_pos e, h]
  · rw [if_neg e, if_neg e, if_neg e]
theorem mem_setF_of {fs : List Fi} {f : Fi} (hf : f ∈ fs) (g : Fi → Fi) : g f ∈ setF fs f.name g := by
  unfold setF
  exact List.mem_map.2 ⟨f, hf, if_pos rfl⟩
theorem cutTo_eq {S : Dk} (h : (S.fs.map Fi.name).Nodup) {f : Fi} (hf : f ∈ S.fs) {z : Nat} {L L2 : List UInt8} (hL : L = f.now.take z) (hL2 : L2 = f.lasts.take z) :
    S.cutTo f.name z = { S with fs := setF (setF S.fs f.name fun g => { g with now := L }) f.name fun g => { g with lasts := L2 }, loose := fun s j => S.loose s j && !(s == f.name && decide ((sectors z : Int) ≤ j)) } := by
  have e : setF S.fs f.name (fun g => { g with now := g.now.take z, lasts := g.lasts.take z }) = setF (setF S.fs f.name fun g => { g with now := L }) f.name fun g => { g with lasts := L2 } := by
    rw [setF_setF (g1 := fun g => { g with now := L }) (g2 := fun g => { g with lasts := L2 }) (g3 := fun g => { g with now := L, lasts := L2 }) (fun _ => rfl) (fun _ => rfl)]
    exact setF_congr h hf (by rw [hL, hL2])
  unfold Dk.cutTo
  rw [e]
section
variable {w : World} {B d : Nat} {o : Own1} {S : Dk} {c : Con}
theorem dout_begin' {w0 w1 w' : World} (h : DI w B o d S c) (g0 : w.grownBy w0 none) (h1 : DI w1 B o d S.begin c) (g1 : w0.grownBy w1 (some d)) (g2 : w1.grownBy w' none) : DOut o w B d S.begin w' :=
  ⟨o, c, h1.ext g2, ((Ch.ext g0).trans (Ch.of_gr g1 (fun k e => by cases e; rw [h.tD]; simp))).trans (Ch.ext g2)⟩
set_option maxHeartbeats 2000000 in
theorem cut_any (h : DI w B o d S c) (n : List UInt8) (hn : n.length ≤ 1000000000) (k : Int) (hk : -9223372036854775808 ≤ k ∧ k ≤ 9223372036854775807) :
    Calls Try.prog 27 #[.pointer (some ⟨d, 0, none⟩), .string ⟨n.toArray⟩, .int .i64 k] w fun e w' => e = .returned (.int .i64 (S.cut n k).2) ∧ DOut o w B d (S.cut n k).1 w' := by
  have H := Lib.hid h
  have hbg := begin_any (h.ext (gr_alloc w (.cells #[.int .i64 k] 3) none))
  have HB := Lib.hid hbg
  have hxx := Blk.new w 3 #[.int .i64 k]
  have HX := Lib.hid hxx
  have hdx : d < w.heap.size := (h.inb d (by rw [h.tD]; simp)).2
  have hne : w.heap.size ≠ d := by omega
  clear h hbg hxx
  cases hd : S.begin.dead with
  | true =>
    have e : S.cut n k = (S.begin, 6) := by unfold Dk.cut; rw [hd]; rfl
    rw [e]
    clear e
    go_enter Try.func27, Try.ntmps27
    go_wp2_with fail
    refine HB.out.mono ?_
    rintro e w1 ⟨rfl, h1, g1⟩
    have H1 := Lib.hid h1
    clear h1
    rw [hd]
    go_wp2
    go_ret
    exact ⟨rfl, dout_begin' H.out (gr_alloc _ _ none) H1.out g1 (gr_refl _ _)⟩
  | false =>
    by_cases hbad : rightB n = false ∨ k < 0
    · have e : S.cut n k = (S.begin, 1) := by unfold Dk.cut; rw [hd, if_pos hbad]; rfl
      rw [e]
      clear e
      obtain ⟨fine, hfine, hbf⟩ : ∃ fine : Bool, decide (0 ≤ k) = fine ∧ (rightB n = false ∨ fine = false) := ⟨decide (0 ≤ k), rfl, by rcases hbad with h | h; exact .inl h; right; simpa using h⟩
      have Hbad := Lib.hid (fun (wx : World) => find_bad d n fine wx hn hbf)
      clear hbad hbf
      go_enter Try.func27, Try.ntmps27
      go_wp2_with fail
      refine HB.out.mono ?_
      rintro e w1 ⟨rfl, h1, g1⟩
      have hx1 : w1.cell? ⟨w.heap.size, 0, none⟩ = some (.int .i64 k) := (HX.out.gr g1 (by simp; omega)).cell 0
      have H1 := Lib.hid h1
      clear h1
      rw [hd]
      go_wp2_with (go_at_call 60; refine (Hbad.out _).mono ?_; rintro e w2 ⟨rfl, g2⟩)
      go_ret
      exact ⟨rfl, dout_begin' H.out (gr_alloc _ _ none) H1.out g1 g2⟩
    · obtain ⟨hr, hk0⟩ : rightB n = true ∧ 0 ≤ k := by simpa [not_or] using hbad
      obtain ⟨z, rfl⟩ := Int.eq_ofNat_of_zero_le hk0
      cases hf : S.find n with
      | none =>
        have e : S.cut n z = (S.begin, 3) := by unfold Dk.cut; rw [hd, if_neg hbad, hf]; rfl
        rw [e]
        clear e
        have hf1 : S.begin.find n = none := by rw [begin_find]; exact hf
        clear hf hbad
        go_enter Try.func27, Try.ntmps27
        go_wp2_with fail
        refine HB.out.mono ?_
        rintro e w1 ⟨rfl, h1, g1⟩
        have hx1 : w1.cell? ⟨w.heap.size, 0, none⟩ = some (.int .i64 z) := (HX.out.gr g1 (by simp; omega)).cell 0
        have H1 := Lib.hid h1
        have Hfo := Lib.hid (find_no h1 hn hr hf1)
        clear h1 hf1
        rw [hd]
        go_wp2_with (go_at_call 60; refine Hfo.out.mono ?_; rintro e w2 ⟨rfl, g2⟩)
        go_ret
        exact ⟨rfl, dout_begin' H.out (gr_alloc _ _ none) H1.out g1 g2⟩
      | some f =>
        have hf1 : S.begin.find n = some f := by rw [begin_find]; exact hf
        obtain ⟨hm, rfl⟩ := find_some hf1
        have Hm := Lib.hid hm
        by_cases hlen : (f.now.length : Int) < (z : Int)
        · have e : S.cut f.name z = (S.begin, 1) := by unfold Dk.cut; rw [hd, if_neg hbad, hf]; simp only [Bool.false_eq_true, if_false]; rw [if_pos hlen]
          rw [e]
          clear e hf hbad hm
          go_enter Try.func27, Try.ntmps27
          go_wp2_with fail
          refine HB.out.mono ?_
          rintro e w1 ⟨rfl, h1, g1⟩
          have hx1 : w1.cell? ⟨w.heap.size, 0, none⟩ = some (.int .i64 z) := (HX.out.gr g1 (by simp; omega)).cell 0
          have H1 := Lib.hid h1
          have Hfo := Lib.hid (find_ok h1 hn hr hf1)
          clear h1 hf1
          rw [hd]
          go_wp2_with fail
          refine Hfo.out.mono ?_
          rintro e w2 ⟨rfl, g2⟩
          have hfr := (H1.out.ext g2).file f Hm.out
          have hsm := hfr.small
          obtain ⟨A, cp, hv⟩ := hfr.now.rd.form
          have hfc : w2.cell? ⟨c.fb f.name, 0, none⟩ = some (.slice A f.now.length cp) := by rw [← hv]; exact hfr.box.cell 0
          have hx2 : w2.cell? ⟨w.heap.size, 0, none⟩ = some (.int .i64 z) := by rw [cell_kept g2 (by rw [hx1]; rfl) (by simp)]; exact hx1
          have G2 := Lib.hid g2
          clear hfr hv hd hr g2 hx1
          go_wp2_with fail
          go_quiet (fail)
          go_wp2
          go_ret
          exact ⟨rfl, dout_begin' H.out (gr_alloc _ _ none) H1.out g1 (gr_none G2.out (gr_drewN _ _ none))⟩
        · have e : S.cut f.name z = (S.begin.cutTo f.name z, 0) := by unfold Dk.cut; rw [hd, if_neg hbad, hf]; simp only [Bool.false_eq_true, if_false]; rw [if_neg hlen, Int.toNat_natCast]
          rw [e]
          have hzl : (z : Int) ≤ (f.now.length : Int) := by omega
          clear e hf hbad hm hlen
          go_enter Try.func27, Try.ntmps27
          go_wp2_with fail
          refine HB.out.mono ?_
          rintro e w1 ⟨rfl, h1, g1⟩
          have hx1 : w1.cell? ⟨w.heap.size, 0, none⟩ = some (.int .i64 z) := (HX.out.gr g1 (by simp; omega)).cell 0
          have HX1 := Lib.hid (HX.out.gr g1 (by simp; omega))
          have H1 := Lib.hid h1
          have G1 := Lib.hid g1
          have Hfo := Lib.hid (find_ok h1 hn hr hf1)
          clear h1 hf1 g1
          rw [hd]
          go_wp2_with fail
          refine Hfo.out.mono ?_
          rintro e w2 ⟨rfl, g2⟩
          have h2 := H1.out.ext g2
          have H2 := Lib.hid h2
          have hfr := h2.file f Hm.out
          have hsm := hfr.small
          obtain ⟨A, cp, hv⟩ := hfr.now.rd.form
          have hfc : w2.cell? ⟨c.fb f.name, 0, none⟩ = some (.slice A f.now.length cp) := by rw [← hv]; exact hfr.box.cell 0
          have hx2 : w2.cell? ⟨w.heap.size, 0, none⟩ = some (.int .i64 z) := by rw [cell_kept g2 (by rw [hx1]; rfl) (by simp)]; exact hx1
          have hrd := hfr.now.rd
          rw [hv] at hrd
          have hcap := RdB.cap hrd
          have hmx : cp ≤ maxLen := by obtain ⟨_, _, _, _, _, e, _, hc, _⟩ := hrd; cases e; exact hc
          unfold maxLen at hmx
          obtain ⟨L, hL⟩ : ∃ L, L = f.now.take z := ⟨_, rfl⟩
          have hLl : L.length = z := by rw [hL, List.length_take]; omega
          have hcut : RdB w2 (.slice A z cp) L := by rw [hL]; exact hrd.take (by omega)
          have HC := Lib.hid hcut
          have HL := Lib.hid hL
          have HLl := Lib.hid hLl
          have HFR := Lib.hid hfr
          have G2 := Lib.hid g2
          clear hfr hv hd hr hrd g2 h2 hcut hL hLl hx1
          go_wp2_with fail
          go_quiet (fail)
          go_wp2_with fail
          have hx3 : (w2.drewN nq).cell? ⟨w.heap.size, 0, none⟩ = some (.int .i64 z) := hx2
          have hfc3 : (w2.drewN nq).cell? ⟨c.fb f.name, 0, none⟩ = some (.slice A f.now.length cp) := hfc
          have hzc : z ≤ cp := by omega
          go_region_law (go_simp; go_at_call 62; refine (cloneB _ L _ (HC.out.ext (gr_none (gr_drewN _ _ none) (gr_drew _ none))) (by rw [HLl.out]; omega)).mono ?_; rintro e w4 ⟨v4, rfl, o4, g4⟩; obtain ⟨A4, c4, rfl⟩ := o4.rd.form; have hk4 : w4.cell? ⟨c.fb f.name, 0, none⟩ = some (c.nv f.name) := (HFR.out.box.ext (gr_none (gr_none (gr_drewN _ _ none) (gr_drew _ none)) g4)).cell 0; have hk5 := (HFR.out.box.ext (gr_none (gr_none (gr_drewN _ _ none) (gr_drew _ none)) g4)).frozen 0)
          all_goals
            obtain ⟨o5, h5, ch5, hoo5⟩ := H2.out.storeNow Hm.out (gr_none (gr_none (gr_drewN _ _ none) (gr_drew _ none)) g4) o4 (by rw [HLl.out]; omega)
            have H5 := Lib.hid h5
            have C5 := Lib.hid ch5
            have hm5 := mem_setF_of Hm.out (fun g => { g with now := L })
            have HM5 := Lib.hid hm5
            have hfr5 := h5.file _ hm5
            have HFR5 := Lib.hid hfr5
            obtain ⟨A6, c6, hv6⟩ := hfr5.lasts.rd.form
            have hv6' : c.lv f.name = .slice A6 f.lasts.length c6 := hv6
            have hfc6 : (w4.setCell ⟨c.fb f.name, 0, none⟩ (.slice A4 L.length c4)).cell? ⟨c.fb f.name, 1, none⟩ = some (.slice A6 f.lasts.length c6) := by rw [← hv6']; exact hfr5.box.cell 1
            have hrd6 : RdB (w4.setCell ⟨c.fb f.name, 0, none⟩ (.slice A4 L.length c4)) (.slice A6 f.lasts.length c6) f.lasts := by rw [← hv6']; exact hfr5.lasts.rd
            have hcap6 := RdB.cap hrd6
            have hmx6 : c6 ≤ maxLen := by obtain ⟨_, _, _, _, _, e, _, hc, _⟩ := hrd6; cases e; exact hc
            unfold maxLen at hmx6
            have hfbx : c.fb f.name < w.heap.size := (H.out.inb _ (by rw [(H.out.tag f (by rw [← begin_fs]; exact Hm.out)).file]; simp)).2
            have hlbx : c.lb < w.heap.size := (H.out.inb _ (by rw [H.out.tL]; simp)).2
            have hxf : w.heap.size ≠ c.fb f.name := by omega
            have hxl : w.heap.size ≠ c.lb := by omega
            have hb5 := Blk.far (HX1.out.ext (gr_none (gr_none (gr_none G2.out (gr_drewN _ _ none)) (gr_drew _ none)) g4)) (p := ⟨c.fb f.name, 0, none⟩) hxf (.slice A4 L.length c4)
            have HX5 := Lib.hid hb5
            have hx5 : (w4.setCell ⟨c.fb f.name, 0, none⟩ (.slice A4 L.length c4)).cell? ⟨w.heap.size, 0, none⟩ = some (.int .i64 z) := hb5.cell 0
            obtain ⟨L2, hL2⟩ : ∃ L2, L2 = f.lasts.take z := ⟨_, rfl⟩
            have HRD6 := Lib.hid hrd6
            clear h5 ch5 hm5 hfr5 hv6 hv6' hrd6 hb5 hk4 hk5 o4 g4 hx3 hfc3 hx2 hfc
            go_wp2_with fail
            by_cases hzq : (z : Int) ≤ (f.lasts.length : Int)
            · have hzn : ¬ f.lasts.length < z := by omega
              have hq : (z : Int) ≤ (c6 : Int) := by omega
              have hqn : z ≤ c6 := by omega
              have hcut6 : RdB (w4.setCell ⟨c.fb f.name, 0, none⟩ (.slice A4 L.length c4)) (.slice A6 z c6) L2 := by rw [hL2]; exact HRD6.out.take (by omega)
              have hL2l : L2.length = z := by rw [hL2, List.length_take]; omega
              have HC6 := Lib.hid hcut6
              have HL2 := Lib.hid hL2
              have HL2l := Lib.hid hL2l
              clear hcut6 hL2 hL2l
              go_region_law (go_simp; go_at_call 62; refine (cloneB _ L2 _ (HC6.out.ext (gr_drew _ none)) (by rw [HL2l.out]; omega)).mono ?_; rintro e w7 ⟨v7, rfl, o7, g7⟩; obtain ⟨A7, c7, rfl⟩ := o7.rd.form; have hk7 : w7.cell? ⟨c.fb f.name, 1, none⟩ = some (c.lv f.name) := (HFR5.out.box.ext (gr_none (gr_drew _ none) g7)).cell 1; have hk8 := (HFR5.out.box.ext (gr_none (gr_drew _ none) g7)).frozen 1)
              all_goals
                obtain ⟨o8, h8, ch8, hoo8⟩ := H5.out.storeLasts HM5.out (gr_none (gr_drew _ none) g7) o7 (by rw [HL2l.out]; omega)
                have H8 := Lib.hid h8
                have C8 := Lib.hid ch8
                have hb8 := Blk.far (HX5.out.ext (gr_none (gr_drew _ none) g7)) (p := ⟨c.fb f.name, 1, none⟩) hxf (.slice A7 L2.length c7)
                have hst := settle_cut h8 f.name z w.heap.size hb8 hxl (by omega)
                have HST := Lib.hid hst
                clear h8 ch8 hb8 hst hk7 hk8
                go_wp2_with fail
                refine HST.out.mono ?_
                rintro e w9 ⟨rfl, lm9, g9⟩
                have h9 := H8.out.loose g9 lm9
                have H9 := Lib.hid h9
                have C9 : Hid (Ch o8 _ o8 w9) := Ch.of_gr g9 (fun k e => by cases e; rw [show o8 c.lb = some (2, []) from H8.out.tL]; simp)
                clear h9 lm9 g9
                go_wp2
                go_ret
                have e := cutTo_eq H1.out.names Hm.out HL.out HL2.out
                rw [e]
                exact ⟨rfl, o8, _, H9.out, (((((Ch.ext (gr_alloc w (.cells #[.int .i64 z] 3) none)).trans (Ch.of_gr G1.out (fun k e => by cases e; rw [H.out.tD]; simp))).trans (Ch.ext G2.out)).trans C5.out).trans C8.out).trans C9.out⟩
            · have hzn : f.lasts.length < z := by omega
              have hq : (f.lasts.length : Int) ≤ (c6 : Int) := by omega
              have hqn : f.lasts.length ≤ c6 := by omega
              have hcut6 : RdB (w4.setCell ⟨c.fb f.name, 0, none⟩ (.slice A4 L.length c4)) (.slice A6 f.lasts.length c6) L2 := by rw [hL2]; exact by rw [List.take_of_length_le (by omega)]; exact HRD6.out
              have hL2l : L2.length = f.lasts.length := by rw [hL2, List.length_take]; omega
              have HC6 := Lib.hid hcut6
              have HL2 := Lib.hid hL2
              have HL2l := Lib.hid hL2l
              clear hcut6 hL2 hL2l
              go_region_law (go_simp; go_at_call 62; refine (cloneB _ L2 _ (HC6.out.ext (gr_drew _ none)) (by rw [HL2l.out]; omega)).mono ?_; rintro e w7 ⟨v7, rfl, o7, g7⟩; obtain ⟨A7, c7, rfl⟩ := o7.rd.form; have hk7 : w7.cell? ⟨c.fb f.name, 1, none⟩ = some (c.lv f.name) := (HFR5.out.box.ext (gr_none (gr_drew _ none) g7)).cell 1; have hk8 := (HFR5.out.box.ext (gr_none (gr_drew _ none) g7)).frozen 1)
              all_goals
                obtain ⟨o8, h8, ch8, hoo8⟩ := H5.out.storeLasts HM5.out (gr_none (gr_drew _ none) g7) o7 (by rw [HL2l.out]; omega)
                have H8 := Lib.hid h8
                have C8 := Lib.hid ch8
                have hb8 := Blk.far (HX5.out.ext (gr_none (gr_drew _ none) g7)) (p := ⟨c.fb f.name, 1, none⟩) hxf (.slice A7 L2.length c7)
                have hst := settle_cut h8 f.name z w.heap.size hb8 hxl (by omega)
                have HST := Lib.hid hst
                clear h8 ch8 hb8 hst hk7 hk8
                go_wp2_with fail
                refine HST.out.mono ?_
                rintro e w9 ⟨rfl, lm9, g9⟩
                have h9 := H8.out.loose g9 lm9
                have H9 := Lib.hid h9
                have C9 : Hid (Ch o8 _ o8 w9) := Ch.of_gr g9 (fun k e => by cases e; rw [show o8 c.lb = some (2, []) from H8.out.tL]; simp)
                clear h9 lm9 g9
                go_wp2
                go_ret
                have e := cutTo_eq H1.out.names Hm.out HL.out HL2.out
                rw [e]
                exact ⟨rfl, o8, _, H9.out, (((((Ch.ext (gr_alloc w (.cells #[.int .i64 z] 3) none)).trans (Ch.of_gr G1.out (fun k e => by cases e; rw [H.out.tD]; simp))).trans (Ch.ext G2.out)).trans C5.out).trans C8.out).trans C9.out⟩
end
end Go.Proofs.Ytfbbbbekialpnaa
