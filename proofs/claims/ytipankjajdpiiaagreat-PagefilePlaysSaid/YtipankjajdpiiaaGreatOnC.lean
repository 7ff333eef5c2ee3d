/-
  A disk: Cut.
-/
import Derived.Test.YtipankjajdpiiaaGreatDw5
import Derived.Deep.RegionHeld3
import Derived.Deep.RegionLaw
namespace Go.Proofs.YtipankjajdpiiaaGreat
open Go.RowKit
set_option maxRecDepth 100000
set_option maxHeartbeats 400000

theorem setF_setF {fs : List Fi} {n : List UInt8} {g1 g2 g3 : Fi → Fi} (h1 : ∀ f, (g1 f).name = f.name) (h : ∀ f, g2 (g1 f) = g3 f) : setF (setF fs n g1) n g2 = setF fs n g3 := by
  unfold setF
  rw [List.map_map]
  refine List.map_congr_left fun f _ => ?_
  show (if (if f.name = n then g1 f else f).name = n then g2 (if f.name = n then g1 f else f) else (if f.name = n then g1 f else f)) = _
  by_cases e : f.name = n
  · rw [if_pos e, if_pos (by rw [h1]; exact e), if_pos e, h]
  · rw [if_neg e, if_neg e, if_neg e]
theorem mem_setF_of {fs : List Fi} {f : Fi} (hf : f ∈ fs) (g : Fi → Fi) : g f ∈ setF fs f.name g := by
  unfold setF
  exact List.mem_map.2 ⟨f, hf, if_pos rfl⟩
theorem cutTo_eq {S : Dk} (h : (S.fs.map Fi.name).Nodup) {f : Fi} (hf : f ∈ S.fs) {z : Nat} {L L2 : List UInt8} (hL : L = f.now.take z) (hL2 : L2 = f.lasts.take z) :
    S.cutTo f.name z = { S with fs := setF (setF S.fs f.name fun g => { g with now := L }) f.name fun g => { g with lasts := L2 }, loose := fun s j => S.loose s j && !(s == f.name && decide ((sectors z : Int) ≤ j)) } := by
  have e : setF S.fs f.name (fun g => { g with now := g.now.take z, lasts := g.lasts.take z }) = setF (setF S.fs f.name fun g => { g with now := L }) f.name fun g => { g with lasts := L2 } := by
    rw [setF_setF (g1 := fun g => { g with now := L }) (g2 := fun g => { g with lasts := L2 }) (g3 := fun g => { g with now := L, lasts := L2 }) (fun _ => rfl) (fun _ => rfl)]
    exact setF_congr h hf (by rw [hL, hL2])
  unfold Dk.cutTo
  rw [e]
section
variable {w : World} {B d : Nat} {o : Own1} {S : Dk} {c : Con}
theorem dout_begin' {w0 w1 w' : World} (h : DI w B o d S c) (g0 : w.grownBy w0 none) (h1 : DI w1 B o d S.begin c) (g1 : w0.grownBy w1 (some d)) (g2 : w1.grownBy w' none) : DOut o w B d S.begin w' :=
  ⟨o, c, h1.ext g2, ((Ch.ext g0).trans (Ch.of_gr g1 (fun k e => by cases e; rw [h.tD]; simp))).trans (Ch.ext g2)⟩
set_option maxHeartbeats 2000000 in
theorem cut_any (h : DI w B o d S c) (n : List UInt8) (hn : n.length ≤ 1000000000) (k : Int) (hk : -9223372036854775808 ≤ k ∧ k ≤ 9223372036854775807) :
    Calls Tryz.prog 68 #[.pointer (some ⟨d, 0, none⟩), .string ⟨n.toArray⟩, .int .i64 k] w fun e w' => e = .returned (.int .i64 (S.cut n k).2) ∧ DOut o w B d (S.cut n k).1 w' := by
  have H := Lib.hid h
  have hbg := begin_any (h.ext (gr_alloc w (.cells #[.int .i64 k] 3) none))
  have HB := Lib.hid hbg
  have hxx := Blk.new w 3 #[.int .i64 k]
  have HX := Lib.hid hxx
  have hdx : d < w.heap.size := (h.inb d (by rw [h.tD]; simp)).2
  have hne : w.heap.size ≠ d := by omega
  clear h hbg hxx
  cases hd : S.begin.dead with
  | true =>
    have e : S.cut n k = (S.begin, 6) := by unfold Dk.cut; rw [hd]; rfl
    rw [e]
    clear e
    go_enter Tryz.func68, Tryz.ntmps68
    go_wp2_with fail
    refine HB.out.mono ?_
    rintro e w1 ⟨rfl, h1, g1⟩
    have H1 := Lib.hid h1
    clear h1
    rw [hd]
    go_wp2
    go_ret
    exact ⟨rfl, dout_begin' H.out (gr_alloc _ _ none) H1.out g1 (gr_refl _ _)⟩
  | false =>
    by_cases hbad : rightB n = false ∨ k < 0
    · have e : S.cut n k = (S.begin, 1) := by unfold Dk.cut; rw [hd, if_pos hbad]; rfl
      rw [e]
      clear e
      obtain ⟨fine, hfine, hbf⟩ : ∃ fine : Bool, decide (0 ≤ k) = fine ∧ (rightB n = false ∨ fine = false) := ⟨decide (0 ≤ k), rfl, by rcases hbad with h | h; exact .inl h; right; simpa using h⟩
      have Hbad := Lib.hid (fun (wx : World) => find_bad d n fine wx hn hbf)
      clear hbad hbf
      go_enter Tryz.func68, Tryz.ntmps68
      go_wp2_with fail
      refine HB.out.mono ?_
      rintro e w1 ⟨rfl, h1, g1⟩
      have hx1 : w1.cell? ⟨w.heap.size, 0, none⟩ = some (.int .i64 k) := (HX.out.gr g1 (by simp; omega)).cell 0
      have H1 := Lib.hid h1
      clear h1
      rw [hd]
      go_wp2_with (go_at_call 74; refine (Hbad.out _).mono ?_; rintro e w2 ⟨rfl, g2⟩)
      go_ret
      exact ⟨rfl, dout_begin' H.out (gr_alloc _ _ none) H1.out g1 g2⟩
    · obtain ⟨hr, hk0⟩ : rightB n = true ∧ 0 ≤ k := by simpa [not_or] using hbad
      obtain ⟨z, rfl⟩ := Int.eq_ofNat_of_zero_le hk0
      cases hf : S.find n with
      | none =>
        have e : S.cut n z = (S.begin, 3) := by unfold Dk.cut; rw [hd, if_neg hbad, hf]; rfl
        rw [e]
        clear e
        have hf1 : S.begin.find n = none := by rw [begin_find]; exact hf
        clear hf hbad
        go_enter Tryz.func68, Tryz.ntmps68
        go_wp2_with fail
        refine HB.out.mono ?_
        rintro e w1 ⟨rfl, h1, g1⟩
        have hx1 : w1.cell? ⟨w.heap.size, 0, none⟩ = some (.int .i64 z) := (HX.out.gr g1 (by simp; omega)).cell 0
        have H1 := Lib.hid h1
        have Hfo := Lib.hid (find_no h1 hn hr hf1)
        clear h1 hf1
        rw [hd]
        go_wp2_with (go_at_call 74; refine Hfo.out.mono ?_; rintro e w2 ⟨rfl, g2⟩)
        go_ret
        exact ⟨rfl, dout_begin' H.out (gr_alloc _ _ none) H1.out g1 g2⟩
      | some f =>
        have hf1 : S.begin.find n = some f := by rw [begin_find]; exact hf
        obtain ⟨hm, rfl⟩ := find_some hf1
        have Hm := Lib.hid hm
        by_cases hlen : (f.now.length : Int) < (z : Int)
        · have e : S.cut f.name z = (S.begin, 1) := by unfold Dk.cut; rw [hd, if_neg hbad, hf]; simp only [Bool.false_eq_true, if_false]; rw [if_pos hlen]
          rw [e]
          clear e hf hbad hm
          go_enter Tryz.func68, Tryz.ntmps68
          go_wp2_with fail
          refine HB.out.mono ?_
          rintro e w1 ⟨rfl, h1, g1⟩
          have hx1 : w1.cell? ⟨w.heap.size, 0, none⟩ = some (.int .i64 z) := (HX.out.gr g1 (by simp; omega)).cell 0
          have H1 := Lib.hid h1
          have Hfo := Lib.hid (find_ok h1 hn hr hf1)
          clear h1 hf1
          rw [hd]
          go_wp2_with fail
          refine Hfo.out.mono ?_
          rintro e w2 ⟨rfl, g2⟩
          have hfr := (H1.out.ext g2).file f Hm.out
          have hsm := hfr.small
          obtain ⟨A, cp, hv⟩ := hfr.now.rd.form
          have hfc : w2.cell? ⟨c.fb f.name, 0, none⟩ = some (.slice A f.now.length cp) := by rw [← hv]; exact hfr.box.cell 0
          have hx2 : w2.cell? ⟨w.heap.size, 0, none⟩ = some (.int .i64 z) := by rw [cell_kept g2 (by rw [hx1]; rfl) (by simp)]; exact hx1
          have G2 := Lib.hid g2
          clear hfr hv hd hr g2 hx1
          go_wp2_with fail
          go_quiet (fail)
          go_wp2
          go_ret
          exact ⟨rfl, dout_begin' H.out (gr_alloc _ _ none) H1.out g1 (gr_none G2.out (gr_drewN _ _ none))⟩
        · have e : S.cut f.name z = (S.begin.cutTo f.name z, 0) := by unfold Dk.cut; rw [hd, if_neg hbad, hf]; simp only [Bool.false_eq_true, if_false]; rw [if_neg hlen, Int.toNat_natCast]
          rw [e]
          have hzl : (z : Int) ≤ (f.now.length : Int) := by omega
          clear e hf hbad hm hlen
          go_enter Tryz.func68, Tryz.ntmps68
          go_wp2_with fail
          refine HB.out.mono ?_
          rintro e w1 ⟨rfl, h1, g1⟩
          have hx1 : w1.cell? ⟨w.heap.size, 0, none⟩ = some (.int .i64 z) := (HX.out.gr g1 (by simp; omega)).cell 0
          have HX1 := Lib.hid (HX.out.gr g1 (by simp; omega))
          have H1 := Lib.hid h1
          have G1 := Lib.hid g1
          have Hfo := Lib.hid (find_ok h1 hn hr hf1)
          clear h1 hf1 g1
          rw [hd]
          go_wp2_with fail
          refine Hfo.out.mono ?_
          rintro e w2 ⟨rfl, g2⟩
          have h2 := H1.out.ext g2
          have H2 := Lib.hid h2
          have hfr := h2.file f Hm.out
          have hsm := hfr.small
          obtain ⟨A, cp, hv⟩ := hfr.now.rd.form
          have hfc : w2.cell? ⟨c.fb f.name, 0, none⟩ = some (.slice A f.now.length cp) := by rw [← hv]; exact hfr.box.cell 0
          have hx2 : w2.cell? ⟨w.heap.size, 0, none⟩ = some (.int .i64 z) := by rw [cell_kept g2 (by rw [hx1]; rfl) (by simp)]; exact hx1
          have hrd := hfr.now.rd
          rw [hv] at hrd
          have hcap := RdB.cap hrd
          have hmx : cp ≤ maxLen := by obtain ⟨_, _, _, _, _, e, _, hc, _⟩ := hrd; cases e; exact hc
          unfold maxLen at hmx
          obtain ⟨L, hL⟩ : ∃ L, L = f.now.take z := ⟨_, rfl⟩
          have hLl : L.length = z := by rw [hL, List.length_take]; omega
          have hcut : RdB w2 (.slice A z cp) L := by rw [hL]; exact hrd.take (by omega)
          have HC := Lib.hid hcut
          have HL := Lib.hid hL
          have HLl := Lib.hid hLl
          have HFR := Lib.hid hfr
          have G2 := Lib.hid g2
          clear hfr hv hd hr hrd g2 h2 hcut hL hLl hx1
          go_wp2_with fail
          go_quiet (fail)
          go_wp2_with fail
          have hx3 : (w2.drewN nq).cell? ⟨w.heap.size, 0, none⟩ = some (.int .i64 z) := hx2
          have hfc3 : (w2.drewN nq).cell? ⟨c.fb f.name, 0, none⟩ = some (.slice A f.now.length cp) := hfc
          have hzc : z ≤ cp := by omega
          go_region_law (go_simp; go_at_call 42; refine (cloneB _ L _ (HC.out.ext (gr_none (gr_drewN _ _ none) (gr_drew _ none))) (by rw [HLl.out]; omega)).mono ?_; rintro e w4 ⟨v4, rfl, o4, g4⟩; obtain ⟨A4, c4, rfl⟩ := o4.rd.form; have hk4 : w4.cell? ⟨c.fb f.name, 0, none⟩ = some (c.nv f.name) := (HFR.out.box.ext (gr_none (gr_none (gr_drewN _ _ none) (gr_drew _ none)) g4)).cell 0; have hk5 := (HFR.out.box.ext (gr_none (gr_none (gr_drewN _ _ none) (gr_drew _ none)) g4)).frozen 0)
          all_goals
            obtain ⟨o5, h5, ch5, hoo5⟩ := H2.out.storeNow Hm.out (gr_none (gr_none (gr_drewN _ _ none) (gr_drew _ none)) g4) o4 (by rw [HLl.out]; omega)
            have H5 := Lib.hid h5
            have C5 := Lib.hid ch5
            have hm5 := mem_setF_of Hm.out (fun g => { g with now := L })
            have HM5 := Lib.hid hm5
            have hfr5 := h5.file _ hm5
            have HFR5 := Lib.hid hfr5
            obtain ⟨A6, c6, hv6⟩ := hfr5.lasts.rd.form
            have hv6' : c.lv f.name = .slice A6 f.lasts.length c6 := hv6
            have hfc6 : (w4.setCell ⟨c.fb f.name, 0, none⟩ (.slice A4 L.length c4)).cell? ⟨c.fb f.name, 1, none⟩ = some (.slice A6 f.lasts.length c6) := by rw [← hv6']; exact hfr5.box.cell 1
            have hrd6 : RdB (w4.setCell ⟨c.fb f.name, 0, none⟩ (.slice A4 L.length c4)) (.slice A6 f.lasts.length c6) f.lasts := by rw [← hv6']; exact hfr5.lasts.rd
            have hcap6 := RdB.cap hrd6
            have hmx6 : c6 ≤ maxLen := by obtain ⟨_, _, _, _, _, e, _, hc, _⟩ := hrd6; cases e; exact hc
            unfold maxLen at hmx6
            have hfbx : c.fb f.name < w.heap.size := (H.out.inb _ (by rw [(H.out.tag f (by rw [← begin_fs]; exact Hm.out)).file]; simp)).2
            have hlbx : c.lb < w.heap.size := (H.out.inb _ (by rw [H.out.tL]; simp)).2
            have hxf : w.heap.size ≠ c.fb f.name := by omega
            have hxl : w.heap.size ≠ c.lb := by omega
            have hb5 := Blk.far (HX1.out.ext (gr_none (gr_none (gr_none G2.out (gr_drewN _ _ none)) (gr_drew _ none)) g4)) (p := ⟨c.fb f.name, 0, none⟩) hxf (.slice A4 L.length c4)
            have HX5 := Lib.hid hb5
            have hx5 : (w4.setCell ⟨c.fb f.name, 0, none⟩ (.slice A4 L.length c4)).cell? ⟨w.heap.size, 0, none⟩ = some (.int .i64 z) := hb5.cell 0
            obtain ⟨L2, hL2⟩ : ∃ L2, L2 = f.lasts.take z := ⟨_, rfl⟩
            have HRD6 := Lib.hid hrd6
            clear h5 ch5 hm5 hfr5 hv6 hv6' hrd6 hb5 hk4 hk5 o4 g4 hx3 hfc3 hx2 hfc
            go_wp2_with fail
            by_cases hzq : (z : Int) ≤ (f.lasts.length : Int)
            · have hzn : ¬ f.lasts.length < z := by omega
              have hq : (z : Int) ≤ (c6 : Int) := by omega
              have hqn : z ≤ c6 := by omega
              have hcut6 : RdB (w4.setCell ⟨c.fb f.name, 0, none⟩ (.slice A4 L.length c4)) (.slice A6 z c6) L2 := by rw [hL2]; exact HRD6.out.take (by omega)
              have hL2l : L2.length = z := by rw [hL2, List.length_take]; omega
              have HC6 := Lib.hid hcut6
              have HL2 := Lib.hid hL2
              have HL2l := Lib.hid hL2l
              clear hcut6 hL2 hL2l
              go_region_law (go_simp; go_at_call 42; refine (cloneB _ L2 _ (HC6.out.ext (gr_drew _ none)) (by rw [HL2l.out]; omega)).mono ?_; rintro e w7 ⟨v7, rfl, o7, g7⟩; obtain ⟨A7, c7, rfl⟩ := o7.rd.form; have hk7 : w7.cell? ⟨c.fb f.name, 1, none⟩ = some (c.lv f.name) := (HFR5.out.box.ext (gr_none (gr_drew _ none) g7)).cell 1; have hk8 := (HFR5.out.box.ext (gr_none (gr_drew _ none) g7)).frozen 1)
              all_goals
                obtain ⟨o8, h8, ch8, hoo8⟩ := H5.out.storeLasts HM5.out (gr_none (gr_drew _ none) g7) o7 (by rw [HL2l.out]; omega)
                have H8 := Lib.hid h8
                have C8 := Lib.hid ch8
                have hb8 := Blk.far (HX5.out.ext (gr_none (gr_drew _ none) g7)) (p := ⟨c.fb f.name, 1, none⟩) hxf (.slice A7 L2.length c7)
                have hst := settle_cut h8 f.name z w.heap.size hb8 hxl (by omega)
                have HST := Lib.hid hst
                clear h8 ch8 hb8 hst hk7 hk8
                go_wp2_with fail
                refine HST.out.mono ?_
                rintro e w9 ⟨rfl, lm9, g9⟩
                have h9 := H8.out.loose g9 lm9
                have H9 := Lib.hid h9
                have C9 : Hid (Ch o8 _ o8 w9) := Ch.of_gr g9 (fun k e => by cases e; rw [show o8 c.lb = some (2, []) from H8.out.tL]; simp)
                clear h9 lm9 g9
                go_wp2
                go_ret
                have e := cutTo_eq H1.out.names Hm.out HL.out HL2.out
                rw [e]
                exact ⟨rfl, o8, _, H9.out, (((((Ch.ext (gr_alloc w (.cells #[.int .i64 z] 3) none)).trans (Ch.of_gr G1.out (fun k e => by cases e; rw [H.out.tD]; simp))).trans (Ch.ext G2.out)).trans C5.out).trans C8.out).trans C9.out⟩
            · have hzn : f.lasts.length < z := by omega
              have hq : (f.lasts.length : Int) ≤ (c6 : Int) := by omega
              have hqn : f.lasts.length ≤ c6 := by omega
              have hcut6 : RdB (w4.setCell ⟨c.fb f.name, 0, none⟩ (.slice A4 L.length c4)) (.slice A6 f.lasts.length c6) L2 := by rw [hL2]; exact by rw [List.take_of_length_le (by omega)]; exact HRD6.out
              have hL2l : L2.length = f.lasts.length := by rw [hL2, List.length_take]; omega
              have HC6 := Lib.hid hcut6
              have HL2 := Lib.hid hL2
              have HL2l := Lib.hid hL2l
              clear hcut6 hL2 hL2l
              go_region_law (go_simp; go_at_call 42; refine (cloneB _ L2 _ (HC6.out.ext (gr_drew _ none)) (by rw [HL2l.out]; omega)).mono ?_; rintro e w7 ⟨v7, rfl, o7, g7⟩; obtain ⟨A7, c7, rfl⟩ := o7.rd.form; have hk7 : w7.cell? ⟨c.fb f.name, 1, none⟩ = some (c.lv f.name) := (HFR5.out.box.ext (gr_none (gr_drew _ none) g7)).cell 1; have hk8 := (HFR5.out.box.ext (gr_none (gr_drew _ none) g7)).frozen 1)
              all_goals
                obtain ⟨o8, h8, ch8, hoo8⟩ := H5.out.storeLasts HM5.out (gr_none (gr_drew _ none) g7) o7 (by rw [HL2l.out]; omega)
                have H8 := Lib.hid h8
                have C8 := Lib.hid ch8
                have hb8 := Blk.far (HX5.out.ext (gr_none (gr_drew _ none) g7)) (p := ⟨c.fb f.name, 1, none⟩) hxf (.slice A7 L2.length c7)
                have hst := settle_cut h8 f.name z w.heap.size hb8 hxl (by omega)
                have HST := Lib.hid hst
                clear h8 ch8 hb8 hst hk7 hk8
                go_wp2_with fail
                refine HST.out.mono ?_
                rintro e w9 ⟨rfl, lm9, g9⟩
                have h9 := H8.out.loose g9 lm9
                have H9 := Lib.hid h9
                have C9 : Hid (Ch o8 _ o8 w9) := Ch.of_gr g9 (fun k e => by cases e; rw [show o8 c.lb = some (2, []) from H8.out.tL]; simp)
                clear h9 lm9 g9
                go_wp2
                go_ret
                have e := cutTo_eq H1.out.names Hm.out HL.out HL2.out
                rw [e]
                exact ⟨rfl, o8, _, H9.out, (((((Ch.ext (gr_alloc w (.cells #[.int .i64 z] 3) none)).trans (Ch.of_gr G1.out (fun k e => by cases e; rw [H.out.tD]; simp))).trans (Ch.ext G2.out)).trans C5.out).trans C8.out).trans C9.out⟩
end
end Go.Proofs.YtipankjajdpiiaaGreat

/- A disk: Write. -/
namespace Go.Proofs.YtipankjajdpiiaaGreat
open Go.RowKit
set_option maxRecDepth 100000
set_option maxHeartbeats 400000

theorem overZ_over (l : List UInt8) (p : Nat) (m : List UInt8) : overZ l p m = over l p m := rfl
/-- bytes behind others, and noughts where there is a gap: none here. -/
theorem over_grown {l b : List UInt8} {p : Nat} (hp : p ≤ l.length) : over (l ++ List.replicate (max l.length (p + b.length) - l.length) 0) p b = overZ l p b := by
  unfold over overZ
  rw [List.take_append_of_le_length hp]
  congr 1
  rw [List.drop_append]
  have : List.drop (p + b.length - l.length) (List.replicate (max l.length (p + b.length) - l.length) (0 : UInt8)) = [] := List.drop_of_length_le (by simp; omega)
  rw [this, List.append_nil]
theorem hits_zero (off : Nat) (k : Int) : hits off 0 k = false := rfl
theorem hits_succ (off n : Nat) (k : Int) : hits off (n + 1) k = (hits off n k || (((off + n) / 64 : Nat) : Int) == k) := by
  unfold hits
  rw [List.range_succ, List.any_append]
  simp
theorem setF_setF' {fs : List Fi} {n : List UInt8} {g1 g2 g3 : Fi → Fi} (h1 : ∀ f, (g1 f).name = f.name) (h : ∀ f, g2 (g1 f) = g3 f) : setF (setF fs n g1) n g2 = setF fs n g3 := by
  unfold setF
  rw [List.map_map]
  refine List.map_congr_left fun f _ => ?_
  show (if (if f.name = n then g1 f else f).name = n then g2 (if f.name = n then g1 f else f) else (if f.name = n then g1 f else f)) = _
  by_cases e : f.name = n
  · rw [if_pos e, if_pos (by rw [h1]; exact e), if_pos e, h]
  · rw [if_neg e, if_neg e, if_neg e]
theorem wrote_eq {S : Dk} (h : (S.fs.map Fi.name).Nodup) {f : Fi} (hf : f ∈ S.fs) {off : Nat} {b L1 L2 : List UInt8} (hL2 : L2 = overZ f.now off b) :
    S.wrote f.name off b = { S with fs := setF (setF S.fs f.name fun g => { g with now := L1 }) f.name fun g => { g with now := L2 }, loose := fun s k => (s == f.name && hits off b.length k) || S.loose s k, nl := S.nl + b.length } := by
  have e : setF S.fs f.name (fun g => { g with now := overZ g.now off b }) = setF (setF S.fs f.name fun g => { g with now := L1 }) f.name fun g => { g with now := L2 } := by
    rw [setF_setF' (g1 := fun g => { g with now := L1 }) (g2 := fun g => { g with now := L2 }) (g3 := fun g => { g with now := L2 }) (fun _ => rfl) (fun _ => rfl)]
    exact setF_congr h hf (by rw [hL2])
  unfold Dk.wrote
  rw [e]
section
variable {w w1 : World} {B d : Nat} {o : Own1} {S : Dk} {c : Con} {f : Fi}
/-- a file's list is made longer, and stored. -/
theorem DI.extNow (h : DI w B o d S c) (hf : f ∈ S.fs) {v : Value} {l : List UInt8} (hx : Ext0 w w1 (c.nv f.name) v) (hv : OwnB w1 B v l) (hl : l.length ≤ 16777216) :
    ∃ o', DI (w1.setCell ⟨c.fb f.name, 0, none⟩ v) B o' d { S with fs := setF S.fs f.name fun g => { g with now := l } } { c with nv := fun s => if s = f.name then v else c.nv s } ∧ Ch o w o' (w1.setCell ⟨c.fb f.name, 0, none⟩ v) := by
  obtain ⟨r, g, hr, hk⟩ := hx
  have hlt := h.ne_file hf
  have ht := h.tag f hf
  have hz := g.size
  have hrf : r ≠ some (c.fb f.name) := fun e => by
    have h1 := ht.now _ (hr _ e)
    rw [ht.file] at h1
    simp at h1
  have hb := ((h.file f hf).box.gr g hrf).set 0 v
  have hbk : ∀ k, blk v = some k → k ≠ c.fb f.name := fun k hk2 e => by
    subst e
    rcases hk _ hk2 with h1 | h1
    · have := ht.now _ h1; rw [ht.file] at this; simp at this
    · omega
  obtain ⟨o', c', hdi, hoo, rfl⟩ := h.setNow (w' := w1.setCell ⟨c.fb f.name, 0, none⟩ v) hf (by simpa [World.setCell] using hz) (fun i hi h3 h4 => by
      rw [heap_far _ _ _ (fun e => by rw [e] at h3; exact h3 ht.file)]
      exact g.block i (h.inb i hi).2 (fun e => h4 (ht.now i (hr i e.symm)))) v l hb
    (Own.same hv fun k hk2 => heap_far _ _ _ (hbk k hk2)) (fun k hk2 => (hk k hk2).imp (ht.now k) id) hl
  refine ⟨o', hdi, ⟨g.os, g.tape, g.output, by simpa [World.setCell] using hz, fun i hi h0 => ?_, fun i hi h0 => by rw [hoo i hi]; exact h0⟩⟩
  rw [heap_far _ _ _ (fun e => by rw [e] at h0; have := ht.file; simp at h0; rw [h0] at this; cases this)]
  exact g.block i hi (fun e => by have := ht.now i (hr i e.symm); rw [h0] at this; cases this)
/-- a file's list is written in. -/
theorem DI.inNow (h : DI w B o d S c) (hf : f ∈ S.fs) {l : List UInt8} (hx : Ext0 w w1 (c.nv f.name) (c.nv f.name)) (hv : OwnB w1 B (c.nv f.name) l) (hl : l.length ≤ 16777216) :
    ∃ o' c', DI w1 B o' d { S with fs := setF S.fs f.name fun g => { g with now := l } } c' ∧ Ch o w o' w1 ∧ c'.lb = c.lb ∧ o' c.lb ≠ none := by
  obtain ⟨r, g, hr, hk⟩ := hx
  have ht := h.tag f hf
  have hrf : r ≠ some (c.fb f.name) := fun e => by
    have h1 := ht.now _ (hr _ e)
    rw [ht.file] at h1
    simp at h1
  obtain ⟨o', c', hdi, hoo, rfl⟩ := h.setNow (w' := w1) hf g.size (fun i hi h3 h4 => g.block i (h.inb i hi).2 (fun e => h4 (ht.now i (hr i e.symm)))) _ l ((h.file f hf).box.gr g hrf) hv (fun k hk2 => (hk k hk2).imp (ht.now k) id) hl
  exact ⟨o', _, hdi, ⟨g.os, g.tape, g.output, g.size, fun i hi h0 => g.block i hi (fun e => by have := ht.now i (hr i e.symm); rw [h0] at this; cases this), fun i hi h0 => by rw [hoo i hi]; exact h0⟩, rfl, by rw [hoo _ (h.inb _ (by rw [h.tL]; simp)).2, h.tL]; simp⟩
/-- copy(v[p:], x), at the operation. -/
theorem wp_copyB {ops : Array Oper} {rest : List Oper} {q : Oper} {a : Act} {Q : Exit → Act → World → Prop} (hgd : q.guard = none) (s0 x0 : Operand)
    (ho : q.op = .call { callee := .builtin .copy, args := #[s0, x0], argTypes := #[40, 40] }) {p n cp n0 : Nat} {A : Option Addr} {cc : Nat} {l m : List UInt8} (hn0 : n0 = l.length) (hn : n = n0 - p) (hc : cp = cc - p)
    (hs : a.eval s0 = .slice (cutA A cc p 1) n cp) (hown : OwnB w B (.slice A n0 cc) l) (hpm : p + m.length ≤ l.length) {x : Value} (hx : a.eval x0 = x) (hr : RdB w x m)
    (h : ∀ w', OwnB w' B (.slice A n0 cc) (over l p m) → Ext0 w w' (.slice A n0 cc) (.slice A n0 cc) → wpList Tryz.prog ops Q rest (a.put q.dst (.int .i64 m.length)) w') : wpList Tryz.prog ops Q (q :: rest) a w := by
  refine wpList_plain hgd fun K hK => ?_
  subst hn0 hn hc
  obtain ⟨w', hrun, h1, h2⟩ := run_copyB w q.type B p A cc l m hown hpm x hr
  unfold Oper.wp execOp
  simp only [ho, resolve, invoke, builtin, Sem.run_bind, Sem.run_pure, Result.andThen_ok, List.map_toArray, List.map_cons, List.map_nil, hs, hx, hrun]
  exact hK _ _ (h w' h1 h2)
/-- append of noughts, in a region. -/
theorem step_appZ {q : Oper} {a : Act} {K : Act → World → Prop} {Q : Exit → Act → World → Prop} (s0 x0 : Operand) (ho : q.op = .call { callee := .builtin .append, args := #[s0, x0], argTypes := #[40, 3] })
    {v v' : Value} {M : Int} {w' : World} (hs : a.eval s0 = v) (hx : a.eval x0 = .int .i64 M) (hrun : (Builtin.append_ #[40, 3] q.type #[v, .int .i64 M]).run Tryz.prog w = .ok v' w') (hK : K (a.put q.dst v') w') : q.wp Tryz.prog a w K Q := by
  unfold Oper.wp execOp
  simp only [ho, resolve, invoke, builtin, Sem.run_bind, Sem.run_pure, Result.andThen_ok, List.map_toArray, List.map_cons, List.map_nil, hs, hx, hrun]
  exact hK
end
end Go.Proofs.YtipankjajdpiiaaGreat

/- copy into a part of a list of the call's own; append of noughts. -/
namespace Go.Proofs.YtipankjajdpiiaaGreat
open Go.RowKit
set_option maxRecDepth 100000

/-- copy(v[p:q], x), where x has just so many. -/
theorem run_copyM (w : World) (ty : TypeId) (B p : Nat) (A : Option Addr) (c : Nat) (l m : List UInt8) (hown : OwnB w B (.slice A l.length c) l) (hpm : p + m.length ≤ l.length) (x : Value) (hr : RdB w x m) :
    ∃ w', (Builtin.copy_ #[40, 40] ty #[.slice (cutA A c p 1) m.length (c - p), x]).run Tryz.prog w = .ok (.int .i64 m.length) w' ∧ OwnB w' B (.slice A l.length c) (over l p m) ∧ Ext0 w w' (.slice A l.length c) (.slice A l.length c) := by
  obtain ⟨i, hi, hz, hsize, hby⟩ := info_parts Tryz.info5
  have hown0 := hown
  obtain ⟨hl, A', c', g, off, e, hn, hc, hA0, hA, hb, hx, hf⟩ := hown
  cases e
  obtain ⟨hl2, A2, c2, g2, off2, rfl, hn2, hc2, hA02, hA2, hx2⟩ := hr
  have hmin : Nat.min m.length m.length = m.length := Nat.min_eq_left (by omega)
  have hgi : goInt m.length = .int .i64 m.length := rfl
  rcases Nat.eq_zero_or_pos m.length with h0 | h0
  · obtain rfl : m = [] := List.eq_nil_of_length_eq_zero h0
    refine ⟨w, ?_, by rw [over_nil]; exact hown0, ext0_refl w _⟩
    have hfc : (Builtin.firstCells 1 0 (.slice A2 0 c2)).run Tryz.prog w = .ok #[] w := by cases A2 <;> simp [Builtin.firstCells, loadCells, loadCellsFrom]
    have hz0 : goInt 0 = .int .i64 0 := rfl
    cases hcu : cutA A c p 1 <;> simp [Builtin.copy_, run_underlying Tryz.underlying40, sizeOf, typeInfo, hi, hsize, Builtin.lenOf, hfc, storeCells, hz0]
  · obtain rfl := hA2 (by omega)
    obtain rfl := hA (by omega)
    have hnews : ∀ j u, (m.map u8v)[j]? = some u → w.cell? ((⟨g2, off2, none⟩ : Addr).add j) = some u := by
      intro j u hu
      have hj : j < (m.map u8v).length := (List.getElem?_eq_some_iff.1 hu).1
      rw [Addr.add_lit, hx2 j (by simpa using hj), hu]
    have hfc := run_firstCells_some (P := Tryz.prog) w 1 m.length ⟨g2, off2, none⟩ m.length c2 (m.map u8v) (by simp) hnews
    have hst := run_storeCells_cells (P := Tryz.prog) g (off + p) (m.map u8v) 0 w (fun j hj => by rw [Nat.add_zero, Nat.add_assoc]; exact (hf _ (by simp at hj; omega)).1) (fun j hj => by rw [Nat.add_zero, Nat.add_assoc]; exact (hf _ (by simp at hj; omega)).2) (u8_one m)
    rw [Nat.add_zero] at hst
    have hcut : cutA (some ⟨g, off, none⟩) c p 1 = some ⟨g, off + p, none⟩ := by
      unfold cutA
      rw [if_neg (by omega)]
      simp [Addr.add_lit]
    have hin := World.cell?_setCells_in g (m.map u8v) (off + p) w (fun j hj => by rw [Nat.add_assoc]; exact (hf _ (by simp at hj; omega)).1)
    have hout : ∀ j, (j < p ∨ p + m.length ≤ j) → (w.setCells g (off + p) (m.map u8v)).cell? ⟨g, off + j, none⟩ = w.cell? ⟨g, off + j, none⟩ := fun j hj =>
      World.cell?_setCells_out g _ _ w _ (fun _ _ => by simp; omega)
    refine ⟨w.setCells g (off + p) (m.map u8v), ?_, ⟨by simp, _, c, g, off, by rw [over_len hpm], by rw [over_len hpm]; exact hn, hc, hA0, hA, hb, fun j hj => ?_, fun j hj => ?_⟩, some g, gr_setCells g _ _ _, fun k hk => (by cases hk; exact blk_some_of (by omega)), fun k hk => .inl hk⟩
    · rw [hcut]
      simp [Builtin.copy_, run_underlying Tryz.underlying40, sizeOf, typeInfo, hi, hsize, Builtin.lenOf, hmin, hfc, hst, hgi]
    · rw [Nat.mul_one, over_len hpm] at hj
      rw [List.getElem?_map, over_at hpm]
      by_cases h1 : j < p ∨ p + m.length ≤ j
      · rw [hout j h1, hx j (by omega), List.getElem?_map]
        rcases h1 with h1 | h1
        · rw [if_pos h1]
        · rw [if_neg (by omega), if_neg (by omega)]
      · have := hin (j - p) (by simp; omega)
        rw [show off + p + (j - p) = off + j from by omega] at this
        rw [this, if_neg (by omega), if_pos (by omega), ← List.getElem?_map, List.getElem?_eq_getElem (by simp; omega)]
    · refine ⟨?_, by rw [World.frozen?_setCells]; exact (hf j hj).2⟩
      by_cases h1 : j < p ∨ p + m.length ≤ j
      · rw [hout j h1]; exact (hf j hj).1
      · have := hin (j - p) (by simp; omega)
        rw [show off + p + (j - p) = off + j from by omega] at this
        rw [this]; rfl

/-! what stays where a block stays -/
section
variable {w : World} {B : Nat}
theorem step_copyM {q : Oper} {a : Act} {K : Act → World → Prop} {Q : Exit → Act → World → Prop} (s0 x0 : Operand) (ho : q.op = .call { callee := .builtin .copy, args := #[s0, x0], argTypes := #[40, 40] })
    {v x : Value} {M : Int} {w' : World} (hs : a.eval s0 = v) (hx : a.eval x0 = x) (hrun : (Builtin.copy_ #[40, 40] q.type #[v, x]).run Tryz.prog w = .ok (.int .i64 M) w') (hK : K (a.put q.dst (.int .i64 M)) w') : q.wp Tryz.prog a w K Q := by
  unfold Oper.wp execOp
  simp only [ho, resolve, invoke, builtin, Sem.run_bind, Sem.run_pure, Result.andThen_ok, List.map_toArray, List.map_cons, List.map_nil, hs, hx, hrun]
  exact hK
theorem wp_appZc {ops : Array Oper} {rest : List Oper} {q : Oper} {a : Act} {Q : Exit → Act → World → Prop} (hgd : q.guard = none) (s0 x0 : Operand) (ho : q.op = .call { callee := .builtin .append, args := #[s0, x0], argTypes := #[40, 3] })
    {v : Value} {l : List UInt8} {m : Nat} (hs : a.eval s0 = v) (hx : a.eval x0 = .int .i64 (m : Int)) (hown : OwnB w B v l) (hm : l.length + m ≤ 70000000000000) (hB : B ≤ w.heap.size)
    (h : ∀ v' w', OwnB w' B v' (l ++ List.replicate m 0) → Ext0 w w' v v' → wpList Tryz.prog ops Q rest (a.put q.dst v') w') : wpList Tryz.prog ops Q (q :: rest) a w := by
  refine wpList_plain hgd fun K hK => ?_
  obtain ⟨v', w', hrun, h1, h2⟩ := run_appZ w q.type B v l hown m hm hB
  unfold Oper.wp execOp
  simp only [ho, resolve, invoke, builtin, Sem.run_bind, Sem.run_pure, Result.andThen_ok, List.map_toArray, List.map_cons, List.map_nil, hs, hx, hrun]
  exact hK _ _ (h v' w' h1 h2)
end
end Go.Proofs.YtipankjajdpiiaaGreat
