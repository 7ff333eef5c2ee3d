/-
  The document's disk: Cut, the walk.
-/
import Derived.Test.YtipankjajdpiiaaGreatRc
namespace Go.Proofs.YtipankjajdpiiaaGreat
open Go.RowKit Go.Maps
set_option maxRecDepth 100000
set_option maxHeartbeats 400000

section
variable {w0 w w' wb wx wy : World} {r N c q a i : Nat} {O O1 : Own1} {A : Option Addr} {l : List Rm} {off : Bool} {R : RD}
set_option maxHeartbeats 4000000 in
theorem rcut_any (h : RS w0 w r O R) (hnd : (R.L.map Rf.n).Nodup) (n : List UInt8) (hn : n.length ≤ 1000000000) (k : Int) (hk : -9223372036854775808 ≤ k ∧ k ≤ 9223372036854775807) : Calls Tryz.prog 82 #[.pointer (some ⟨r, 0, none⟩), .string ⟨n.toArray⟩, .int .i64 k] w fun e w' => e = .returned (.int .i64 (R.cut n k).2) ∧ RSn w0 r O (R.cut n k).1 w w' := by
  have HG := Lib.hid (rgone_rs h)
  have HNM := Lib.hid (fun wx => rname_any n wx hn)
  obtain ⟨R1, hR1⟩ : ∃ R1, R1 = R.begin := ⟨_, rfl⟩
  have hC : R.cut n k = if R1.off then (R1, 6) else if rightB n = false ∨ k < 0 then (R1, 1) else match R.find n with | none => (R1, 3) | some f => if (f.now.length : Int) < k then (R1, 1) else (R1.cutTo n k.toNat, 0) := by rw [hR1]; rfl
  have hL1 : R1.L = R.L := by rw [hR1, beginL]
  have hF1 : R1.find n = R.find n := by unfold RD.find; rw [hL1]
  rw [← hR1] at HG
  have HC := Lib.hid hC
  have HL1 := Lib.hid hL1
  have HF1 := Lib.hid hF1
  have HND := Lib.hid hnd
  have HK := Lib.hid hk
  clear h hR1 hC hL1 hF1 hn hnd hk
  go_enter Tryz.func82, Tryz.ntmps82
  go_wp2_with fail
  refine HG.out.mono ?_
  rintro e w1 ⟨rfl, h1, ch1⟩
  have H1 := Lib.hid h1
  have CH1 := Lib.hid ch1
  clear h1 ch1 HG
  cases hd : R1.off with
  | true =>
    have HR : Hid (R.cut n k = (R1, 6)) := by show _ = _; rw [HC.out, if_pos hd]
    clear hd
    go_wp2_with fail
    go_ret
    exact ⟨by rw [HR.out]; rfl, by rw [HR.out]; exact ⟨O, H1.out, CH1.out⟩⟩
  | false =>
    go_wp2_with fail
    refine (HNM.out w1).mono ?_
    rintro e w2 ⟨rfl, rfl⟩
    by_cases hbad : rightB n = false ∨ k < 0
    · have HR : Hid (R.cut n k = (R1, 1)) := by show _ = _; rw [HC.out, if_neg (by rw [hd]; simp), if_pos hbad]
      have hb3 : rightB n = false ∨ (rightB n = true ∧ k < 0) := by
        cases e : rightB n with
        | false => exact .inl rfl
        | true => rw [e] at hbad; exact .inr ⟨rfl, hbad.resolve_left (by simp)⟩
      clear hd hbad
      rcases hb3 with hr | ⟨hr, hk0⟩
      all_goals
        rw [hr]
        go_wp2_with fail
        go_ret
        exact ⟨by rw [HR.out]; rfl, by rw [HR.out]; exact ⟨O, H1.out, CH1.out⟩⟩
    · have hr : rightB n = true := by
        cases e : rightB n with
        | true => rfl
        | false => exact absurd (.inl e) hbad
      have hk0 : ¬ k < 0 := fun e => hbad (.inr e)
      obtain ⟨A, N, c, l, hv, hl⟩ := H1.out
      have HV := Lib.hid hv
      have HLL := Lib.hid hl
      clear hv hl
      rw [hr]
      go_wp2_with fail
      refine (rat_any HV.out n).mono ?_
      rintro e w2 ⟨⟨z, rfl, hz⟩, g2⟩
      have CH2 : Hid (Ch O w O w2) := CH1.out.trans (Ch.ext g2)
      rcases ixm_find HLL.out hz with ⟨i, rfl, hi, hni, hf⟩ | ⟨rfl, hf⟩
      · obtain ⟨k', rfl⟩ := Int.eq_ofNat_of_zero_le (show 0 ≤ k by omega)
        have hCR : R.cut n (k' : Int) = if (l[i].now.length : Int) < (k' : Int) then (R1, 1) else (R1.cutTo n k', 0) := by
          have hf2 : R1.find n = some l[i].rf := hf
          rw [HC.out, if_neg (by rw [hd]; simp), if_neg hbad, ← HF1.out, hf2, Int.toNat_natCast]; rfl
        have h2 := HV.out.ext g2
        have hiN : i < N := by rw [← HV.out.len]; exact hi
        obtain ⟨gl, offl, rfl, -, -, -, -, -, -⟩ := h2.at_ hiN
        obtain ⟨c0, c1, c2, c3, hfz, hgr, hgO, hNc⟩ := h2.cellsA hiN hi
        have hok := h2.ok l[i] (List.getElem_mem hi)
        obtain ⟨X, hX⟩ : ∃ X, X = l[i] := ⟨_, rfl⟩
        rw [← hX] at c0 c1 c2 c3 hok hni hCR
        obtain ⟨A1, d1, e1⟩ := RdB.form hok.now
        obtain ⟨A2, d2, e2⟩ := RdB.form hok.lasts
        obtain ⟨_, A3, d3, _, _, e3, hc3, _⟩ := hok.loose
        obtain ⟨M1, hM1⟩ : ∃ M, M = X.now.length := ⟨_, rfl⟩
        obtain ⟨M2, hM2⟩ : ∃ M, M = X.lasts.length := ⟨_, rfl⟩
        obtain ⟨M3, hM3⟩ : ∃ M, M = X.loose.length := ⟨_, rfl⟩
        have hsm := hok.small
        have hr1 := hok.now
        have hr2 := hok.lasts
        have hr3 := hok.loose
        rw [e1] at c1 hr1
        rw [e2] at c2 hr2
        rw [e3] at c3 hr3
        have hc1 := RdB.cap hr1
        have hc2 := RdB.cap hr2
        rw [← hM1] at c1 hc1 hsm hCR
        rw [← hM2] at c2 hc2 hsm
        rw [← hM3] at c3 hc3 hsm hr3
        have s0 : w2.cell? ⟨r, 0, none⟩ = some (.slice (some ⟨gl, offl, none⟩) N c) := h2.self.cell 0
        have hi0 : (0 : Int) ≤ (i : Int) := by omega
        have hi1 : (i : Int) < (N : Int) := by omega
        have hi2 : ¬ (i : Int) < 0 := by omega
        have H2 := Lib.hid h2
        have HNI := Lib.hid hni
        have HX := Lib.hid hX
        have HI : Hid (True ∧ i < l.length) := ⟨trivial, hi⟩
        obtain ⟨nm, hnm⟩ : ∃ nm, nm = X.n := ⟨_, rfl⟩
        rw [← hnm] at c0
        obtain ⟨w3, hw3⟩ : ∃ w3, w3 = w2.alloc (.cells #[.string ⟨nm.toArray⟩, .slice A1 M1 d1, .slice A2 M2 d2, .slice A3 M3 d3] 100) := ⟨_, rfl⟩
        have hg3 : w2.grownBy w3 none := by rw [hw3]; exact gr_alloc _ _ none
        have hbk : Blk w3 w2.heap.size 100 #[.string ⟨nm.toArray⟩, .slice A1 M1 d1, .slice A2 M2 d2, .slice A3 M3 d3] := by rw [hw3]; exact Blk.new w2 _ _
        have hbc := hbk.cell
        rw [hw3] at hbc
        have HBK := Lib.hid hbk
        have G3 := Lib.hid hg3
        have HW3 := Lib.hid hw3
        have hne1 : gl ≠ w2.heap.size := by have := (h2.inb gl hgO).2; omega
        have HR1 : Hid (RdB w2 (.slice A1 M1 d1) X.now) := by show RdB _ _ _; rw [hM1]; exact hr1
        have HR2 : Hid (RdB w2 (.slice A2 M2 d2) X.lasts) := by show RdB _ _ _; rw [hM2]; exact hr2
        have HR3 : Hid (Rd w2 1 (.slice A3 M3 d3) M3 (blL X.loose)) := hr3
        have HMM : Hid (M1 = X.now.length ∧ M2 = X.lasts.length ∧ M3 = X.loose.length) := ⟨hM1, hM2, hM3⟩
        have HE2 : Hid (X.lv = .slice A2 M2 d2) := by show _ = _; rw [hM2]; exact e2
        have HE3 : Hid (X.sv = .slice A3 M3 d3) := by show _ = _; rw [hM3]; exact e3
        clear hd hbad g2 hf hz h2 hfz hok e1 e2 e3 hr1 hr2 hr3 hM1 hM2 hM3 hni hX hnm hg3 hbk hw3
        by_cases hlt : (M1 : Int) < (k' : Int)
        · have HR : Hid (R.cut n (k' : Int) = (R1, 1)) := by show _ = _; rw [hCR, if_pos hlt]
          have HX2 : Hid (RS w0 w3 r O R1 ∧ Ch O w O w3) := ⟨⟨_, N, c, l, H2.out.ext G3.out, HLL.out⟩, CH2.out.trans (Ch.ext G3.out)⟩
          clear hCR
          go_wp2_with fail
          go_ret
          rw [← HW3.out]
          exact ⟨by rw [HR.out]; rfl, by rw [HR.out]; exact ⟨O, HX2.out.1, HX2.out.2⟩⟩
        · have HR : Hid (R.cut n (k' : Int) = (R1.cutTo n k', 0)) := by show _ = _; rw [hCR, if_neg hlt]
          have hkM : k' ≤ M1 := by omega
          clear hCR
          go_wp2_with fail
          rw [← HW3.out]
          have h3 := H2.out.ext G3.out
          have s0 : w3.cell? ⟨r, 0, none⟩ = some (.slice (some ⟨gl, offl, none⟩) N c) := h3.self.cell 0
          have b1 : w3.cell? ⟨w2.heap.size, 1, none⟩ = some (.slice A1 M1 d1) := HBK.out.cell 1
          have H3 := Lib.hid h3
          have HC4 : Hid (∀ wx, w3.grownBy wx none → (wx.cell? ⟨r, 0, none⟩ = some (.slice (some ⟨gl, offl, none⟩) N c) ∧ wx.cell? ⟨w2.heap.size, 1, none⟩ = some (.slice A1 M1 d1)) ∧ wx.frozen? ⟨gl, offl + i * 4 + 1, none⟩ = false ∧ ∃ u, wx.cell? ⟨gl, offl + i * 4 + 1, none⟩ = some u) := fun wx g => ⟨⟨g.cell s0 (by simp), g.cell b1 (by simp)⟩, (((h3.ext g).cellsA hiN hi).2.2.2.2.1) 1 (by omega), _, ((h3.ext g).cellsA hiN hi).2.1⟩
          have hkd : (k' : Int) ≤ (d1 : Int) := by omega
          have hkM' : ¬ (M1 : Int) < (k' : Int) := by omega
          have HL4 : Hid ((X.now.take k').length = k') := by show _ = _; rw [List.length_take, ← HMM.out.1]; omega
          clear h3 c0 c1 c2 c3
          go_region_held3 (fun w' => w'.cell? ⟨r, 0, none⟩ = some (.slice (some ⟨gl, offl, none⟩) N c) ∧ w'.cell? ⟨w2.heap.size, 1, none⟩ = some (.slice A1 M1 d1)) (first | exact k4 | exact k4b _ | go_keep) (first
            | (refine step_appB1 (B := w3.heap.size) (by rfl) (l := []) (m := X.now.take k') (.tmp 42) (.tmp 46) (by rfl) (by rfl) (own_atB0 _ _ (Nat.le_refl _)) (by rfl) ((HR1.out.ext (gr_none G3.out (gr_none (gr_alloc _ _ none) (gr_drew _ none)))).take (by rw [← HMM.out.1]; exact hkM)) (by rw [HL4.out]; show 0 + k' ≤ _; omega) (by show _ ≤ (w3.alloc _).heap.size; rw [World.size_alloc]; omega) ?_; rintro v4 w4 o4 g4; obtain ⟨A4, c4, ev4⟩ := RdB.form (OwnB.rd o4); rw [List.nil_append, HL4.out] at ev4; subst ev4; have g34 : w3.grownBy w4 none := gr_trans (gr_none (gr_alloc _ _ none) (gr_drew _ none)) g4 (.inr fun q e => by cases e; exact Nat.le_refl _); obtain ⟨k4, z4, u4, q4⟩ := HC4.out w4 g34; have k4b := keep_box (o := offl + i * 4 + 1) k4.1 k4.2 hgr hne1; have O4 := Lib.hid o4; have G34 := Lib.hid g34; clear o4 g4 g34))
          clear k4 k4b z4 q4 s0 b1
          have hx := (H3.out.ext G34.out |>.grow (wb := w3) H3.out.gr.size).ok l[i] (List.getElem_mem hi)
          rw [← HX.out] at hx
          have h5 := H3.out.field hiN hi G34.out (j := 1) (u := .slice A4 k' c4) (x' := { X with nv := .slice A4 k' c4, now := X.now.take k' }) (by omega) (by rw [← HX.out]; rfl) (RmOk.mk3 O4.out.rd hx.lasts hx.loose (offB_new H3.out O4.out (by omega)) hx.offL hx.offS ⟨hx.small.1, by show (X.now.take k').length ≤ _; rw [HL4.out]; omega, hx.small.2.2⟩)
          have hch5 : Ch O w2 O (w4.setCell ⟨gl, offl + i * 4 + 1, none⟩ (.slice A4 k' c4)) := ((Ch.ext (gr_none G3.out G34.out)).trans (Ch.of_gr (gr_setCell _ _ _) fun b e => by cases e; exact hgO))
          have hbk5 := (HBK.out.ext G34.out).far (p := ⟨gl, offl + i * 4 + 1, none⟩) (fun e => hne1 e.symm) (.slice A4 k' c4)
          have hgr5 : w2.grownBy (w4.setCell ⟨gl, offl + i * 4 + 1, none⟩ (.slice A4 k' c4)) (some gl) := gr_trans (gr_of_none (gr_none G3.out G34.out)) (gr_setCell _ _ _) (.inl rfl)
          obtain ⟨O5, hO5⟩ : ∃ O5, O5 = growO O w3 w4 := ⟨_, rfl⟩
          have hf5 : ∀ i, i < w2.heap.size → O i = none → O5 i = none := by rw [hO5]; exact growO_free (fun _ _ h => h) G3.out.size
          rw [← hO5] at h5
          obtain ⟨w5, hw5⟩ : ∃ w5, w5 = w4.setCell ⟨gl, offl + i * 4 + 1, none⟩ (.slice A4 k' c4) := ⟨_, rfl⟩
          rw [← hw5] at h5 hch5 hbk5 hgr5 ⊢
          have H5 := Lib.hid h5
          have CH5 := Lib.hid hch5
          have HBK5 := Lib.hid hbk5
          have HF5 := Lib.hid hf5
          have hgO5 : O5 gl ≠ none := by rw [hO5]; unfold growO; rw [if_neg hgO]; exact hgO
          clear h5 hch5 hbk5 hf5 hw5 hO5 hx hgr5
          obtain ⟨K2, hK2⟩ : ∃ K2, K2 = min k' M2 := ⟨_, rfl⟩
          have hm2 : min (k' : Int) (M2 : Int) = (K2 : Int) := by omega
          have hkd2 : (K2 : Int) ≤ (d2 : Int) := by omega
          have HL6 : Hid ((X.lasts.take K2).length = K2) := by show _ = _; rw [List.length_take, ← HMM.out.2.1]; omega
          have HK2 : Hid (K2 ≤ M2 ∧ X.lasts.take K2 = X.lasts.take k') := ⟨by omega, by
            rcases Nat.lt_or_ge k' M2 with h9 | h9
            · rw [show K2 = k' from by omega]
            · rw [List.take_of_length_le (by rw [← HMM.out.2.1]; omega), List.take_of_length_le (by rw [← HMM.out.2.1]; omega)]⟩
          clear hK2
          have s0 : w5.cell? ⟨r, 0, none⟩ = some (.slice (some ⟨gl, offl, none⟩) N c) := H5.out.self.cell 0
          have b1 : w5.cell? ⟨w2.heap.size, 2, none⟩ = some (.slice A2 M2 d2) := HBK5.out.cell 2
          have hil : i < (l.set i { X with nv := .slice A4 k' c4, now := X.now.take k' }).length := by rw [List.length_set]; exact hi
          have HC4 : Hid (∀ wx, w5.grownBy wx none → (wx.cell? ⟨r, 0, none⟩ = some (.slice (some ⟨gl, offl, none⟩) N c) ∧ wx.cell? ⟨w2.heap.size, 2, none⟩ = some (.slice A2 M2 d2)) ∧ wx.frozen? ⟨gl, offl + i * 4 + 2, none⟩ = false ∧ ∃ u, wx.cell? ⟨gl, offl + i * 4 + 2, none⟩ = some u) := fun wx g => ⟨⟨g.cell s0 (by simp), g.cell b1 (by simp)⟩, (((H5.out.ext g).cellsA hiN hil).2.2.2.2.1) 2 (by omega), _, ((H5.out.ext g).cellsA hiN hil).2.2.1⟩
          have HRx : Hid (RdB w5 (.slice A2 M2 d2) X.lasts) := by
            have h9 := H5.out.ok _ (List.getElem_mem hil)
            rw [List.getElem_set_self] at h9
            have h8 : RdB w5 X.lv X.lasts := h9.lasts
            rw [HE2.out] at h8
            exact h8
          go_wp2_with fail
          go_region_held3 (fun w' => w'.cell? ⟨r, 0, none⟩ = some (.slice (some ⟨gl, offl, none⟩) N c) ∧ w'.cell? ⟨w2.heap.size, 2, none⟩ = some (.slice A2 M2 d2)) (first | exact k6 | exact k6b _ | go_keep) (first
            | (refine step_appB1 (B := w5.heap.size) (by rfl) (l := []) (m := X.lasts.take K2) (.tmp 55) (.tmp 63) ?_ (by rfl) (own_atB0 _ _ (Nat.le_refl _)) (by rfl) ((HRx.out.ext (gr_none (gr_alloc _ _ none) (gr_drew _ none))).take (by rw [← HMM.out.2.1]; exact HK2.out.1)) (by rw [HL6.out]; have := HK2.out.1; show 0 + K2 ≤ _; omega) (by show _ ≤ (w5.alloc _).heap.size; rw [World.size_alloc]; omega) ?_; rfl; rintro v6 w6 o6 g6; obtain ⟨A6, c6, ev6⟩ := RdB.form (OwnB.rd o6); rw [List.nil_append, HL6.out] at ev6; subst ev6; have g56 : w5.grownBy w6 none := gr_trans (by first | exact gr_none (gr_alloc _ _ none) (gr_drew _ none) | exact gr_none (gr_alloc _ _ none) (gr_drewN _ _ none)) g6 (.inr fun q e => by cases e; exact Nat.le_refl _); obtain ⟨k6, z6, u6, q6⟩ := HC4.out w6 g56; have k6b := keep_box (o := offl + i * 4 + 2) k6.1 k6.2 hgr hne1; have O6 := Lib.hid o6; have G56 := Lib.hid g56; clear o6 g6 g56))
          all_goals
            clear k6 k6b z6 q6 s0 b1
            have hx := (H5.out.ext G56.out |>.grow (wb := w5) H5.out.gr.size).ok _ (List.getElem_mem hil)
            rw [List.getElem_set_self] at hx
            have h7 := H5.out.field hiN hil G56.out (j := 2) (u := .slice A6 K2 c6) (x' := { X with nv := .slice A4 k' c4, now := X.now.take k', lv := .slice A6 K2 c6, lasts := X.lasts.take K2 }) (by omega) (by rw [List.getElem_set_self]; rfl) (RmOk.mk3 hx.now O6.out.rd hx.loose hx.offN (offB_new H5.out O6.out (by omega)) hx.offS ⟨hx.small.1, hx.small.2.1, by show (X.lasts.take K2).length ≤ _; rw [HL6.out]; have := HK2.out.1; omega, hx.small.2.2.2⟩)
            rw [List.set_set] at h7
            have hch7 : Ch O w2 O (w6.setCell ⟨gl, offl + i * 4 + 2, none⟩ (.slice A6 K2 c6)) := CH5.out.trans ((Ch.ext G56.out).trans (Ch.of_gr (gr_setCell _ _ _) fun b e => by cases e; exact hgO))
            have hbk7 := (HBK5.out.ext G56.out).far (p := ⟨gl, offl + i * 4 + 2, none⟩) (fun e => hne1 e.symm) (.slice A6 K2 c6)
            obtain ⟨O7, hO7⟩ : ∃ x, x = growO O5 w5 w6 := ⟨_, rfl⟩
            have hf7 : ∀ i, i < w2.heap.size → O i = none → O7 i = none := by rw [hO7]; exact growO_free HF5.out CH5.out.size
            rw [← hO7] at h7
            obtain ⟨w7, hw7⟩ : ∃ x, x = w6.setCell ⟨gl, offl + i * 4 + 2, none⟩ (.slice A6 K2 c6) := ⟨_, rfl⟩
            rw [← hw7] at h7 hch7 hbk7 ⊢
            have H7 := Lib.hid h7
            have CH7 := Lib.hid hch7
            have HBK7 := Lib.hid hbk7
            have HF7 := Lib.hid hf7
            clear h7 hch7 hbk7 hf7 hw7 hO7 hx HC4 HRx O6 G56
            obtain ⟨T, hT⟩ : ∃ T, T = sectors k' := ⟨_, rfl⟩
            obtain ⟨K3, hK3⟩ : ∃ K3, K3 = min T M3 := ⟨_, rfl⟩
            have hm3 : min (T : Int) (M3 : Int) = (K3 : Int) := by omega
            have hkd3 : (K3 : Int) ≤ (d3 : Int) := by omega
            have HSE : Hid (∀ wx, Calls Tryz.prog 89 #[.int .i64 (k' : Int)] wx fun e w' => e = .returned (.int .i64 (T : Int)) ∧ wx = w') := fun wx => by rw [hT]; exact rsectors_any k' wx (by omega)
            have HL8 : Hid ((X.loose.take K3).length = K3) := by show _ = _; rw [List.length_take, ← HMM.out.2.2]; omega
            have HK3 : Hid (K3 ≤ M3 ∧ X.loose.take K3 = X.loose.take (sectors k')) := ⟨by omega, by
              rw [← hT]
              rcases Nat.lt_or_ge T M3 with h9 | h9
              · rw [show K3 = T from by omega]
              · rw [List.take_of_length_le (by rw [← HMM.out.2.2]; omega), List.take_of_length_le (by rw [← HMM.out.2.2]; omega)]⟩
            clear hK3 hT
            have s0 : w7.cell? ⟨r, 0, none⟩ = some (.slice (some ⟨gl, offl, none⟩) N c) := H7.out.self.cell 0
            have b1 : w7.cell? ⟨w2.heap.size, 3, none⟩ = some (.slice A3 M3 d3) := HBK7.out.cell 3
            have hil7 : i < (l.set i { X with nv := .slice A4 k' c4, now := X.now.take k', lv := .slice A6 K2 c6, lasts := X.lasts.take K2 }).length := by rw [List.length_set]; exact hi
            have HC4 : Hid (∀ wx, w7.grownBy wx none → (wx.cell? ⟨r, 0, none⟩ = some (.slice (some ⟨gl, offl, none⟩) N c) ∧ wx.cell? ⟨w2.heap.size, 3, none⟩ = some (.slice A3 M3 d3)) ∧ wx.frozen? ⟨gl, offl + i * 4 + 3, none⟩ = false ∧ ∃ u, wx.cell? ⟨gl, offl + i * 4 + 3, none⟩ = some u) := fun wx g => ⟨⟨g.cell s0 (by simp), g.cell b1 (by simp)⟩, (((H7.out.ext g).cellsA hiN hil7).2.2.2.2.1) 3 (by omega), _, ((H7.out.ext g).cellsA hiN hil7).2.2.2.1⟩
            have HRx : Hid (Rd w7 1 (.slice A3 M3 d3) M3 (blL X.loose)) := by
              have h9 := H7.out.ok _ (List.getElem_mem hil7)
              rw [List.getElem_set_self] at h9
              have h8 : Rd w7 1 X.sv X.loose.length (blL X.loose) := h9.loose
              rw [HE3.out, ← HMM.out.2.2] at h8
              exact h8
            have HOW : Hid (∀ wx, (w7.alloc (.cells #[] 4)).grownBy wx none → Own wx w7.heap.size 1 (.slice (some ⟨w7.heap.size, 0, none⟩) 0 0) ([] : List Bool).length (blL [])) := fun wx g => Own.ext (own_Bl0 w7 w7.heap.size (Nat.le_refl _)) g
            go_wp2_with fail
            go_region_held3 (fun w' => w'.cell? ⟨r, 0, none⟩ = some (.slice (some ⟨gl, offl, none⟩) N c) ∧ w'.cell? ⟨w2.heap.size, 3, none⟩ = some (.slice A3 M3 d3)) (first | exact k8 | exact k8b _ | go_keep) (first
              | (go_at_call 89; refine (HSE.out _).mono ?_; rintro e w9 ⟨rfl, rfl⟩)
              | (refine step_appBl (B := w7.heap.size) (by rfl) (l := []) (m := X.loose.take K3) (.tmp 72) (.tmp 81) ?_ (by rfl) (HOW.out _ ?_) (by rfl) (rd_takeBl (HRx.out.ext ?_) HK3.out.1) ?_ ?_ ?_; rfl; (first | exact gr_drew _ none | exact gr_drewN _ _ none | exact gr_refl _ _); (first | exact gr_none (gr_alloc _ _ none) (gr_drew _ none) | exact gr_none (gr_alloc _ _ none) (gr_drewN _ _ none) | exact gr_alloc _ _ none); (rw [HL8.out]; have := HK3.out.1; show 0 + K3 ≤ _; omega); (show _ ≤ (w7.alloc _).heap.size; rw [World.size_alloc]; omega); rintro v8 w8 o8 g8; obtain ⟨_, A8, c8, _, _, ev8, _⟩ := id o8; rw [List.nil_append, HL8.out] at ev8; subst ev8; have g78 : w7.grownBy w8 none := gr_trans (by first | exact gr_none (gr_alloc _ _ none) (gr_drew _ none) | exact gr_none (gr_alloc _ _ none) (gr_drewN _ _ none) | exact gr_alloc _ _ none) g8 (.inr fun q e => by cases e; exact Nat.le_refl _); obtain ⟨k8, z8, u8, q8⟩ := HC4.out w8 g78; have k8b := keep_box (o := offl + i * 4 + 3) k8.1 k8.2 hgr hne1; have O8 := Lib.hid o8; have G78 := Lib.hid g78; clear o8 g8 g78))
            all_goals
              clear k8 k8b z8 q8 s0 b1
              have hx := (H7.out.ext G78.out |>.grow (wb := w7) H7.out.gr.size).ok _ (List.getElem_mem hil7)
              rw [List.getElem_set_self] at hx
              have h9 := H7.out.field hiN hil7 G78.out (j := 3) (u := .slice A8 K3 c8) (x' := { X with nv := .slice A4 k' c4, now := X.now.take k', lv := .slice A6 K2 c6, lasts := X.lasts.take K2, sv := .slice A8 K3 c8, loose := X.loose.take K3 }) (by omega) (by rw [List.getElem_set_self]; rfl) (RmOk.mk3 hx.now hx.lasts (by have h5 := O8.out.rd; rw [List.nil_append, HL8.out] at h5; show Rd _ _ _ (X.loose.take K3).length _; rw [HL8.out]; exact h5) hx.offN hx.offL (offB_new H7.out O8.out (by omega)) ⟨hx.small.1, hx.small.2.1, hx.small.2.2.1, by show (X.loose.take K3).length ≤ _; rw [HL8.out]; have := HK3.out.1; omega⟩)
              rw [List.set_set] at h9
              have hch9 := CH7.out.trans ((Ch.ext G78.out).trans (Ch.of_gr (gr_setCell w8 ⟨gl, offl + i * 4 + 3, none⟩ (.slice A8 K3 c8)) fun b e => by cases e; exact hgO))
              have hf9 : ∀ i, i < w2.heap.size → O i = none → growO O7 w7 w8 i = none := growO_free HF7.out CH7.out.size
              have hL9 : (l.set i { X with nv := .slice A4 k' c4, now := X.now.take k', lv := .slice A6 K2 c6, lasts := X.lasts.take K2, sv := .slice A8 K3 c8, loose := X.loose.take K3 }).map Rm.rf = (R1.cutTo n k').L := by
                show _ = setR R1.L n _
                rw [← HLL.out]
                refine setR_map (by have := HND.out; rw [← HL1.out, ← HLL.out, List.map_map] at this; exact this) hi (by rw [← HX.out]; exact HNI.out) ?_
                rw [← HX.out]
                show (⟨X.n, X.now.take k', X.lasts.take K2, X.loose.take K3⟩ : Rf) = ⟨X.n, X.now.take k', X.lasts.take k', X.loose.take (sectors k')⟩
                rw [HK2.out.2, HK3.out.2]
              have H9 := Lib.hid h9
              have CH9 : Hid (Ch O w (growO O7 w7 w8) (w8.setCell ⟨gl, offl + i * 4 + 3, none⟩ (.slice A8 K3 c8))) := CH2.out.trans ⟨hch9.os, hch9.tape, hch9.output, hch9.size, hch9.block, hf9⟩
              have HL9 := Lib.hid hL9
              clear h9 hch9 hf9 hL9 hx HC4 HRx HOW
              go_wp2
              go_ret
              exact ⟨by rw [HR.out]; rfl, by rw [HR.out]; exact ⟨_, ⟨_, _, _, _, H9.out, HL9.out⟩, CH9.out⟩⟩
      · have HR : Hid (R.cut n k = (R1, 3)) := by
          show _ = _
          have hf2 : R1.find n = none := hf
          rw [HC.out, if_neg (by rw [hd]; simp), if_neg hbad, ← HF1.out, hf2]
        have HX : Hid (RS w0 w2 r O R1) := ⟨A, N, c, l, HV.out.ext g2, HLL.out⟩
        clear hd g2 hf hz hbad
        go_wp2_with fail
        go_ret
        exact ⟨by rw [HR.out]; rfl, by rw [HR.out]; exact ⟨O, HX.out, CH2.out⟩⟩
end
end Go.Proofs.YtipankjajdpiiaaGreat
