/-
  The document's disk: Write, the walk.
-/
import Derived.Test.YtipankjajdpiiaaGreatRf0
namespace Go.Proofs.YtipankjajdpiiaaGreat
open Go.RowKit Go.Maps
set_option maxRecDepth 100000
set_option maxHeartbeats 400000

section
variable {w0 w w' wb wx wy : World} {r N c q a i : Nat} {O O1 : Own1} {A : Option Addr} {l : List Rm} {off : Bool} {R : RD}
set_option maxHeartbeats 4000000 in
theorem rwrite_any (h : RS w0 w r O R) (hnd : (R.L.map Rf.n).Nodup) (n : List UInt8) (hn : n.length ≤ 1000000000) (k : Int) (hk : -9223372036854775808 ≤ k ∧ k ≤ 9223372036854775807) {Ab : Option Addr} {cb : Nat} {b : List UInt8} (hbo : ∀ O1 w1, Ch O w O1 w1 → RdB w1 (.slice Ab b.length cb) b) (hbl : b.length ≤ 1000000000000) : Calls Tryz.prog 36 #[.pointer (some ⟨r, 0, none⟩), .string ⟨n.toArray⟩, .int .i64 k, .slice Ab b.length cb] w fun e w' => e = .returned (.int .i64 (R.write n k b).2) ∧ RSn w0 r O (R.write n k b).1 w w' := by
  have HG := Lib.hid (rgone_rs h)
  have HNM := Lib.hid (fun wx => rname_any n wx hn)
  obtain ⟨R1, hR1⟩ : ∃ R1, R1 = R.begin := ⟨_, rfl⟩
  have hC : R.write n k b = if R1.off then (R1, 6) else if rightB n = false ∨ k < 0 then (R1, 1) else match R.find n with | none => (R1, 3) | some f => if (f.now.length : Int) < k then (R1, 1) else if 16777216 - k < b.length then (R1, 9) else if 0 < (sectors (max f.now.length (k.toNat + b.length)) : Int) - sectors f.now.length ∧ (R1.q : Int) < R1.used + ((sectors (max f.now.length (k.toNat + b.length)) : Int) - sectors f.now.length) then (R1, 5) else (R1.wrote n k.toNat b, 0) := by
    have hq1 : R1.q = R.q := by rw [hR1, begin_eq]
    have hu1 : R1.used = R.used := by unfold RD.used; rw [hR1, beginL]
    rw [hq1, hu1, hR1]; rfl
  have hL1 : R1.L = R.L := by rw [hR1, beginL]
  have hF1 : R1.find n = R.find n := by unfold RD.find; rw [hL1]
  rw [← hR1] at HG
  have HC := Lib.hid hC
  have HL1 := Lib.hid hL1
  have HF1 := Lib.hid hF1
  have HND := Lib.hid hnd
  have HBO := Lib.hid hbo
  have HK := Lib.hid hk
  clear h hR1 hC hL1 hF1 hn hnd hk hbo
  go_enter Tryz.func36, Tryz.ntmps36
  go_wp2_with fail
  refine HG.out.mono ?_
  rintro e w1 ⟨rfl, h1, ch1⟩
  have H1 := Lib.hid h1
  have CH1 := Lib.hid ch1
  clear h1 ch1 HG
  cases hd : R1.off with
  | true =>
    have HR : Hid (R.write n k b = (R1, 6)) := by show _ = _; rw [HC.out, if_pos hd]
    clear hd
    go_wp2_with fail
    go_ret
    exact ⟨by rw [HR.out]; rfl, by rw [HR.out]; exact ⟨O, H1.out, CH1.out⟩⟩
  | false =>
    go_wp2_with fail
    refine (HNM.out w1).mono ?_
    rintro e w2 ⟨rfl, rfl⟩
    by_cases hbad : rightB n = false ∨ k < 0
    · have HR : Hid (R.write n k b = (R1, 1)) := by show _ = _; rw [HC.out, if_neg (by rw [hd]; simp), if_pos hbad]
      have hb3 : rightB n = false ∨ (rightB n = true ∧ k < 0) := by
        cases e : rightB n with
        | false => exact .inl rfl
        | true => rw [e] at hbad; exact .inr ⟨rfl, hbad.resolve_left (by simp)⟩
      clear hd hbad
      rcases hb3 with hr | ⟨hr, hk0⟩
      all_goals
        rw [hr]
        go_wp2_with fail
        go_ret
        exact ⟨by rw [HR.out]; rfl, by rw [HR.out]; exact ⟨O, H1.out, CH1.out⟩⟩
    · have hr : rightB n = true := by
        cases e : rightB n with
        | true => rfl
        | false => exact absurd (.inl e) hbad
      have hk0 : ¬ k < 0 := fun e => hbad (.inr e)
      obtain ⟨A, N, c, l, hv, hl⟩ := H1.out
      have HV := Lib.hid hv
      have HLL := Lib.hid hl
      clear hv hl
      rw [hr]
      go_wp2_with fail
      refine (rat_any HV.out n).mono ?_
      rintro e w2 ⟨⟨z, rfl, hz⟩, g2⟩
      have CH2 : Hid (Ch O w O w2) := CH1.out.trans (Ch.ext g2)
      rcases ixm_find HLL.out hz with ⟨i, rfl, hi, hni, hf⟩ | ⟨rfl, hf⟩
      · obtain ⟨k', rfl⟩ := Int.eq_ofNat_of_zero_le (show 0 ≤ k by omega)
        have hCR : R.write n (k' : Int) b = if (l[i].now.length : Int) < (k' : Int) then (R1, 1) else if 16777216 - (k' : Int) < b.length then (R1, 9) else if 0 < (sectors (max l[i].now.length (k' + b.length)) : Int) - sectors l[i].now.length ∧ (R1.q : Int) < R1.used + ((sectors (max l[i].now.length (k' + b.length)) : Int) - sectors l[i].now.length) then (R1, 5) else (R1.wrote n k' b, 0) := by
          have hf2 : R1.find n = some l[i].rf := hf
          rw [HC.out, if_neg (by rw [hd]; simp), if_neg hbad, ← HF1.out, hf2, Int.toNat_natCast]; rfl
        have h2 := HV.out.ext g2
        have hiN : i < N := by rw [← HV.out.len]; exact hi
        obtain ⟨gl, offl, rfl, -, -, -, -, -, -⟩ := h2.at_ hiN
        obtain ⟨c0, c1, c2, c3, hfz, hgr, hgO, hNc⟩ := h2.cellsA hiN hi
        have hok := h2.ok l[i] (List.getElem_mem hi)
        obtain ⟨X, hX⟩ : ∃ X, X = l[i] := ⟨_, rfl⟩
        rw [← hX] at c0 c1 c2 c3 hok hni hCR
        obtain ⟨A1, d1, e1⟩ := RdB.form hok.now
        obtain ⟨A2, d2, e2⟩ := RdB.form hok.lasts
        obtain ⟨_, A3, d3, _, _, e3, hc3, _⟩ := hok.loose
        obtain ⟨M1, hM1⟩ : ∃ M, M = X.now.length := ⟨_, rfl⟩
        obtain ⟨M2, hM2⟩ : ∃ M, M = X.lasts.length := ⟨_, rfl⟩
        obtain ⟨M3, hM3⟩ : ∃ M, M = X.loose.length := ⟨_, rfl⟩
        have hsm := hok.small
        have hr1 := hok.now
        have hr2 := hok.lasts
        have hr3 := hok.loose
        rw [e1] at c1 hr1
        rw [e2] at c2 hr2
        rw [e3] at c3 hr3
        have hc1 := RdB.cap hr1
        have hc2 := RdB.cap hr2
        rw [← hM1] at c1 hc1 hsm hCR
        rw [← hM2] at c2 hc2 hsm
        rw [← hM3] at c3 hc3 hsm hr3
        have s0 : w2.cell? ⟨r, 0, none⟩ = some (.slice (some ⟨gl, offl, none⟩) N c) := h2.self.cell 0
        have hi0 : (0 : Int) ≤ (i : Int) := by omega
        have hi1 : (i : Int) < (N : Int) := by omega
        have hi2 : ¬ (i : Int) < 0 := by omega
        have H2 := Lib.hid h2
        have HNI := Lib.hid hni
        have HX := Lib.hid hX
        have HI : Hid (True ∧ i < l.length) := ⟨trivial, hi⟩
        obtain ⟨nm, hnm⟩ : ∃ nm, nm = X.n := ⟨_, rfl⟩
        rw [← hnm] at c0
        obtain ⟨w3, hw3⟩ : ∃ w3, w3 = w2.alloc (.cells #[.string ⟨nm.toArray⟩, .slice A1 M1 d1, .slice A2 M2 d2, .slice A3 M3 d3] 100) := ⟨_, rfl⟩
        have hg3 : w2.grownBy w3 none := by rw [hw3]; exact gr_alloc _ _ none
        have hbk : Blk w3 w2.heap.size 100 #[.string ⟨nm.toArray⟩, .slice A1 M1 d1, .slice A2 M2 d2, .slice A3 M3 d3] := by rw [hw3]; exact Blk.new w2 _ _
        have hbc := hbk.cell
        rw [hw3] at hbc
        have HBK := Lib.hid hbk
        have G3 := Lib.hid hg3
        have HW3 := Lib.hid hw3
        have hne1 : gl ≠ w2.heap.size := by have := (h2.inb gl hgO).2; omega
        have HR1 : Hid (RdB w2 (.slice A1 M1 d1) X.now) := by show RdB _ _ _; rw [hM1]; exact hr1
        have HR2 : Hid (RdB w2 (.slice A2 M2 d2) X.lasts) := by show RdB _ _ _; rw [hM2]; exact hr2
        have HR3 : Hid (Rd w2 1 (.slice A3 M3 d3) M3 (blL X.loose)) := hr3
        have HMM : Hid (M1 = X.now.length ∧ M2 = X.lasts.length ∧ M3 = X.loose.length) := ⟨hM1, hM2, hM3⟩
        have HE2 : Hid (X.lv = .slice A2 M2 d2) := by show _ = _; rw [hM2]; exact e2
        have HE3 : Hid (X.sv = .slice A3 M3 d3) := by show _ = _; rw [hM3]; exact e3
        clear hd hbad g2 hf hz h2 hfz hok e1 e2 e3 hr1 hr2 hr3 hM1 hM2 hM3 hni hX hnm hg3 hbk hw3
        have HBW : Hid (∀ wx, w2.grownBy wx none → RdB wx (.slice Ab b.length cb) b) := fun wx g => (HBO.out _ _ CH2.out).ext g
        by_cases hlt : (M1 : Int) < (k' : Int)
        · have HR : Hid (R.write n (k' : Int) b = (R1, 1)) := by show _ = _; rw [hCR, if_pos hlt]
          have HX2 : Hid (RS w0 w3 r O R1 ∧ Ch O w O w3) := ⟨⟨_, N, c, l, H2.out.ext G3.out, HLL.out⟩, CH2.out.trans (Ch.ext G3.out)⟩
          clear hCR
          go_wp2_with fail
          go_ret
          rw [← HW3.out]
          exact ⟨by rw [HR.out]; rfl, by rw [HR.out]; exact ⟨O, HX2.out.1, HX2.out.2⟩⟩
        · obtain ⟨lb, hlb⟩ : ∃ lb, lb = b.length := ⟨_, rfl⟩
          rw [← hlb] at hCR HBO HBW hbl ⊢
          have HLB := Lib.hid hlb
          rw [if_neg hlt] at hCR
          have hkM : k' ≤ M1 := by omega
          by_cases h9 : 16777216 - (k' : Int) < (lb : Int)
          · have HR : Hid (R.write n (k' : Int) b = (R1, 9)) := by show _ = _; rw [hCR, if_pos h9]
            have HX2 : Hid (RS w0 w3 r O R1 ∧ Ch O w O w3) := ⟨⟨_, N, c, l, H2.out.ext G3.out, HLL.out⟩, CH2.out.trans (Ch.ext G3.out)⟩
            have h9d : decide (16777216 - (k' : Int) < (lb : Int)) = true := decide_eq_true h9
            clear hCR hlb
            go_wp2_with fail
            go_ret
            rw [← HW3.out]
            exact ⟨by rw [HR.out]; rfl, by rw [HR.out]; exact ⟨O, HX2.out.1, HX2.out.2⟩⟩
          · rw [if_neg h9] at hCR
            obtain ⟨E, hE⟩ : ∃ E, E = max M1 (k' + lb) := ⟨_, rfl⟩
            rw [← hE] at hCR
            have hEE : E ≤ 16777216 := by omega
            have hM1E : M1 ≤ E := by omega
            have hkE : k' + lb ≤ E := by omega
            have hmE : max (M1 : Int) ((k' : Int) + (lb : Int)) = (E : Int) := by omega
            have h9d : decide (16777216 - (k' : Int) < (lb : Int)) = false := decide_eq_false h9
            have HEE := Lib.hid hE
            have hT := sectors_mono hM1E
            have hT2 := sectors_le hEE
            obtain ⟨T1, hT1⟩ : ∃ T1, T1 = sectors E := ⟨_, rfl⟩
            obtain ⟨T0, hT0⟩ : ∃ T0, T0 = sectors M1 := ⟨_, rfl⟩
            rw [← hT1, ← hT0] at hCR hT
            rw [← hT1] at hT2
            have HSE1 : Hid (∀ wx, Calls Tryz.prog 89 #[.int .i64 (E : Int)] wx fun e w' => e = .returned (.int .i64 (T1 : Int)) ∧ w' = wx) := fun wx => by rw [hT1]; exact (rsectors_any E wx (by omega)).mono fun e w' h => ⟨h.1, h.2.symm⟩
            have HSE0 : Hid (∀ wx, Calls Tryz.prog 89 #[.int .i64 (M1 : Int)] wx fun e w' => e = .returned (.int .i64 (T0 : Int)) ∧ w' = wx) := fun wx => by rw [hT0]; exact (rsectors_any M1 wx (by omega)).mono fun e w' h => ⟨h.1, h.2.symm⟩
            have HT1 := Lib.hid hT1
            have HCR := Lib.hid hCR
            have HU := Lib.hid (fun wx (g : w3.grownBy wx none) => rused_any ((⟨_, N, c, l, (H2.out.ext G3.out).ext g, HLL.out⟩ : RS w0 wx r O R1)))
            clear hCR hE hT1 hT0 hlb
            go_wp2_with fail
            rw [← HW3.out]
            have b1 : w3.cell? ⟨w2.heap.size, 1, none⟩ = some (.slice A1 M1 d1) := HBK.out.cell 1
            go_quiet ((go_at_call 89; first | with_reducible exact Calls.quiet_of_same (HSE1.out _) | with_reducible exact Calls.quiet_of_same (HSE0.out _)))
            obtain ⟨wq, hwq⟩ : ∃ wq, wq = w3.drewN nq := ⟨_, rfl⟩
            have hgq : w3.grownBy wq none := by rw [hwq]; exact gr_drewN _ _ _
            rw [← hwq]
            have GQ := Lib.hid hgq
            clear hwq hgq
            have q1 : wq.cell? ⟨r, 1, none⟩ = some (.int .i64 (R1.q : Int)) := (H2.out.ext (gr_none G3.out GQ.out)).self.cell 1
            by_cases hm : T0 < T1
            · have hmi : (0 : Int) < (T1 : Int) - (T0 : Int) := by omega
              have HUQ := Lib.hid (fun wx (g : wq.grownBy wx none) => HU.out wx (gr_none GQ.out g))
              obtain ⟨UU, hUU⟩ : ∃ u, u = R1.used := ⟨_, rfl⟩
              rw [← hUU] at HUQ HCR
              obtain ⟨QQ, hQQ⟩ : ∃ u, u = R1.q := ⟨_, rfl⟩
              rw [← hQQ] at q1 HCR
              have HQQ := Lib.hid hQQ
              have hU9 : UU ≤ 1000000000000000000 := by
                have := used_sum (⟨_, N, c, l, H2.out, HLL.out⟩ : RS w0 w2 r O R1)
                rw [← hUU] at this; exact this
              clear HU hUU hQQ
              have HWR : Hid (IntKind.i64.wrap ((UU : Int) + ((T1 : Int) - (T0 : Int))) = (UU : Int) + ((T1 : Int) - (T0 : Int))) := IntWalk.i64_in _ (by omega)
              by_cases hfull : (QQ : Int) < (UU : Int) + ((T1 : Int) - (T0 : Int))
              · have HR : Hid (R.write n (k' : Int) b = (R1, 5)) := by show _ = _; rw [HCR.out, if_pos ⟨hmi, hfull⟩]
                clear HCR
                go_wp2_with fail
                go_region_held3 (fun w' => w'.cell? ⟨r, 1, none⟩ = some (.int .i64 (QQ : Int))) (first | exact ku | exact q1 | go_keep) (first
                  | (go_at_call 90; refine (HUQ.out _ (by first | exact gr_drew _ none | exact gr_drewN _ _ none | exact gr_refl _ _)).mono ?_; rintro e wu ⟨rfl, gu⟩; have gqu : wq.grownBy wu none := gr_none (by first | exact gr_drew _ none | exact gr_drewN _ _ none | exact gr_refl _ _) gu; have ku : wu.cell? ⟨r, 1, none⟩ = some (.int .i64 (QQ : Int)) := gqu.cell q1 (by simp); have GU := Lib.hid gqu; clear gu gqu))
                all_goals
                  have HXF : Hid (∀ wx, wu.grownBy wx none → RS w0 wx r O R1 ∧ Ch O w O wx) := fun wx g => ⟨⟨_, N, c, l, H2.out.ext (gr_none G3.out (gr_none GQ.out (gr_none GU.out g))), HLL.out⟩, CH2.out.trans (Ch.ext (gr_none G3.out (gr_none GQ.out (gr_none GU.out g))))⟩
                  clear ku q1
                  simp only [HWR.out, decide_eq_true hfull]
                  go_wp2_with fail
                  go_ret
                  have h9 := HXF.out _ (by first | exact gr_refl _ _ | exact gr_drew _ none | exact gr_drewN _ _ none)
                  exact ⟨by rw [HR.out]; rfl, by rw [HR.out]; exact ⟨O, h9.1, h9.2⟩⟩
              · have HR : Hid (R.write n (k' : Int) b = (R1.wrote n k' b, 0)) := by show _ = _; rw [HCR.out, if_neg fun h => hfull h.2]
                have HFD : Hid (decide ((QQ : Int) < (UU : Int) + ((T1 : Int) - (T0 : Int))) = false) := decide_eq_false hfull
                clear HCR
                go_wp2_with fail
                go_region_held3 (fun w' => w'.cell? ⟨r, 1, none⟩ = some (.int .i64 (QQ : Int))) (first | exact ku | exact q1 | go_keep) (first
                  | (go_at_call 90; refine (HUQ.out _ (by first | exact gr_drew _ none | exact gr_drewN _ _ none | exact gr_refl _ _)).mono ?_; rintro e wu ⟨rfl, gu⟩; have gqu : wq.grownBy wu none := gr_none (by first | exact gr_drew _ none | exact gr_drewN _ _ none | exact gr_refl _ _) gu; have ku : wu.cell? ⟨r, 1, none⟩ = some (.int .i64 (QQ : Int)) := gqu.cell q1 (by simp); have b1u : (wu.alloc (.cells #[] 5)).cell? ⟨w2.heap.size, 1, none⟩ = some (.slice A1 M1 d1) := (gr_none gqu (gr_alloc _ _ none)).cell (GQ.out.cell b1 (by simp)) (by simp); have GU := Lib.hid gqu; clear gu gqu))
                simp only [HWR.out, HFD.out]
                obtain ⟨wz, hwz⟩ : ∃ wz, wz = wu := ⟨_, rfl⟩
                have hgz : w3.grownBy wz none := by rw [hwz]; exact gr_none GQ.out GU.out
                rw [← hwz]
                have GZ := Lib.hid hgz
                clear hwz hgz q1 ku GU b1u
                have b1z : (wz.alloc (.cells #[] 5)).cell? ⟨w2.heap.size, 1, none⟩ = some (.slice A1 M1 d1) := (gr_none GZ.out (gr_alloc _ _ none)).cell b1 (by simp)
                have HZ0 : Hid (w3.heap.size ≤ wz.heap.size) := GZ.out.size
                have HX1 : Hid (M1 = X.now.length) := HMM.out.1
                clear b1
                go_wp2_with (at_builtin; refine wp_appB (m := X.now) (l := []) rfl (.tmp 77) (.tmp 79) rfl rfl (own_empty wz wz.heap.size (Nat.le_refl _)) rfl (HR1.out.ext (gr_none G3.out (gr_none GZ.out (gr_alloc _ _ none)))) (by rw [← HX1.out]; show 0 + M1 ≤ _; omega) (by rw [World.size_alloc]; omega) ?_; rintro v5 w5 o5 g5 -; obtain ⟨A5, c5, ev5⟩ := RdB.form (OwnB.rd o5); rw [List.nil_append, ← HX1.out] at ev5; subst ev5; rw [List.nil_append] at o5; have gz5 : wz.grownBy w5 none := gr_trans (gr_alloc _ _ none) g5 (.inr fun q e => by cases e; exact Nat.le_refl _); have O5 := Lib.hid o5; have GZ5 := Lib.hid gz5; clear o5 g5 gz5)
                go_loopw [13] (fun v wr => ∃ (n : Nat) (An : Option Addr) (cn : Nat), M1 ≤ n ∧ n ≤ E ∧ v = .slice An n cn ∧ OwnB wr wz.heap.size (.slice An n cn) (padN X.now n) ∧ wz.grownBy wr none) (fun v _ => E - lenV v)
                case atStart => exact ⟨M1, A5, c5, Nat.le_refl _, hM1E, rfl, by have := O5.out; rw [HX1.out, padN_self]; rw [HX1.out] at this; exact this, GZ5.out⟩
                case round =>
                  obtain ⟨n', An, cn, hn1, hn2, rfl, ho, hg⟩ := hrel
                  rename World => wr
                  by_cases hlt1 : n' < E
                  · have hle : (n' : Int) < (E : Int) := by omega
                    have HO := Lib.hid ho
                    have HGR := Lib.hid hg
                    have hlenp : (padN X.now n').length = n' := padN_len (by rw [← HX1.out]; exact hn1)
                    have HLP := Lib.hid hlenp
                    clear ho hg hlenp
                    go_wp2_with (at_builtin; refine wp_app1B 0 0 rfl rfl (.tmp 85) (.tmp 86) rfl rfl HO.out rfl (by rw [HLP.out]; omega) HGR.out.size ?_; rintro v6 w6 o6 g6 -; obtain ⟨A6, c6, ev6⟩ := RdB.form (OwnB.rd o6); rw [List.length_append, HLP.out] at ev6; subst ev6; have O6 := Lib.hid o6; have G6 : Hid (wz.grownBy w6 none) := gr_trans (gr_none HGR.out (gr_refl _ _)) g6 (.inr fun q e => Own.lt HO.out q e); clear o6 g6)
                    go_roundw
                    case rel => exact ⟨n' + 1, A6, c6, by omega, by omega, rfl, by rw [← padN_succ (by rw [← HX1.out]; exact hn1)]; exact O6.out, G6.out⟩
                    case measure => simp [lenV]; omega
                  · obtain rfl : E = n' := by omega
                    have hle : ¬ (E : Int) < (E : Int) := by omega
                    have HO := Lib.hid ho
                    have HGR := Lib.hid (gr_none GZ.out hg)
                    have HSZ0 := Lib.hid hg.size
                    have b3z : (wr.alloc (.cells #[] 4)).cell? ⟨w2.heap.size, 3, none⟩ = some (.slice A3 M3 d3) := (gr_none HGR.out (gr_alloc _ _ none)).cell (HBK.out.cell 3) (by simp)
                    have HZ3 : Hid (∀ wx, w2.grownBy wx none → Rd wx 1 (.slice A3 M3 d3) M3 (blL X.loose)) := fun wx g => HR3.out.ext g
                    clear ho hg b1z
                    go_wp2_with (at_builtin; refine wp_appBl (B := wr.heap.size) (l := []) (m := X.loose) rfl (.tmp 88) (.tmp 90) rfl rfl (own_Bl0 wr wr.heap.size (Nat.le_refl _)) rfl (HZ3.out _ (gr_none G3.out (gr_none HGR.out (gr_alloc _ _ none)))) (by show 0 + M3 ≤ _; omega) (by rw [World.size_alloc]; omega) ?_; rintro v8 w8 o8 g8; rw [List.nil_append, show ([] : List Bool).length + M3 = M3 from Nat.zero_add _] at o8; obtain ⟨_, A8, c8, _, _, ev8, _⟩ := id o8; subst ev8; have O8 := Lib.hid o8; have G8 : Hid (wr.grownBy w8 none) := gr_trans (gr_alloc _ _ none) g8 (.inr fun q e => by cases e; exact Nat.le_refl _); clear o8 g8)
                    have HOA : Hid (OwnB wr wz.heap.size (.slice An E cn) (padN X.now E)) := HO.out
                    have HGA : Hid (w3.grownBy wr none) := HGR.out
                    have HSZ : Hid (wz.heap.size ≤ wr.heap.size ∧ wr.heap.size ≤ w8.heap.size) := ⟨HSZ0.out, G8.out.size⟩
                    have HSE2 := Lib.hid (fun wx => rsectors_any E wx (by omega))
                    rw [← HT1.out] at HSE2
                    go_loopw [14] (fun v wv => ∃ (m : Nat) (Am : Option Addr) (cm : Nat), M3 ≤ m ∧ m ≤ max M3 T1 ∧ v = .slice Am m cm ∧ Own wv wr.heap.size 1 (.slice Am m cm) m (blL (padF X.loose m)) ∧ wr.grownBy wv none) (fun v _ => max M3 T1 - lenV v)
                    case atStart => exact ⟨M3, A8, c8, Nat.le_refl _, by omega, rfl, by have := O8.out; rw [HMM.out.2.2, padF_self]; rw [HMM.out.2.2] at this; exact this, G8.out⟩
                    case round =>
                      obtain ⟨m, Am, cm, hm1, hm2, rfl, ho, hg⟩ := hrel
                      rename World => wv
                      have hm2' : m ≤ M3 ∨ m ≤ T1 := by omega
                      have HO2 := Lib.hid ho
                      have HG2 := Lib.hid hg
                      clear ho hg
                      by_cases hlt2 : m < T1
                      · have hlm : (m : Int) < (T1 : Int) := by omega
                        have hlen : (padF X.loose m).length = m := by rw [padF_len, ← HMM.out.2.2]; omega
                        have HLF := Lib.hid hlen
                        clear hlen
                        go_wp2_with fail
                        refine (HSE2.out _).mono ?_
                        rintro e w9 ⟨rfl, rfl⟩
                        go_wp2_with (at_builtin; refine wp_app1Bl (B := wr.heap.size) (l := padF X.loose m) false rfl (.tmp 97) (.tmp 98) rfl rfl ?hown _ rfl rfl ?hn ?hB ?_; (case hown => rw [HLF.out]; exact HO2.out); (case hn => rw [HLF.out]; omega); (case hB => exact HG2.out.size); rintro v6 w6 o6 g6; rw [List.length_append, HLF.out] at o6; obtain ⟨_, A6, c6, _, _, ev6, _⟩ := id o6; subst ev6; have O6 := Lib.hid o6; have G6 : Hid (wr.grownBy w6 none) := gr_trans HG2.out g6 (.inr fun q e => Own.lt HO2.out q e); clear o6 g6)
                        go_roundw
                        case rel => exact ⟨m + 1, A6, c6, by omega, by omega, rfl, by rw [← padF_succ (by rw [← HMM.out.2.2]; exact hm1)]; exact O6.out, G6.out⟩
                        case measure => simp [lenV]; omega
                      · have hlm : ¬ (m : Int) < (T1 : Int) := by omega
                        obtain ⟨mm, hmm⟩ : ∃ mm, mm = max M3 T1 := ⟨_, rfl⟩
                        rw [← hmm] at hm2
                        obtain rfl : mm = m := by omega
                        have hT1m : T1 ≤ mm := by omega
                        have HM : Hid (mm = max X.loose.length T1) := by show _ = _; rw [hmm, HMM.out.2.2]
                        have HO3 : Hid (Own wv wr.heap.size 1 (.slice Am mm cm) mm (blL (hitI X.loose mm k' 0))) := by
                          have h5 := HO2.out
                          have h6 := hitI_zero X.loose (m := T1) k'
                          rw [← HM.out] at h6
                          rw [h6, ← show padF X.loose mm = padF X.loose T1 by rw [HM.out, padF_max]]
                          exact h5
                        clear hm2 hm2' hm1 hmm HO2
                        go_wp2_with fail
                        refine (HSE2.out _).mono ?_
                        rintro e w9 ⟨rfl, rfl⟩
                        go_wp2_with fail
                        have HOA2 : Hid (OwnB wv wz.heap.size (.slice An E cn) (overZ (padN X.now E) k' (b.take 0))) := by
                          have h5 := HOA.out.ext HG2.out
                          show OwnB _ _ _ _
                          rw [List.take_zero, overZ_nil]; exact h5
                        have HG3 : Hid (w3.grownBy wv none) := gr_none HGA.out HG2.out
                        have HPL : Hid ((padN X.now E).length = E) := padN_len (by rw [← HMM.out.1]; exact hn1)
                        have hWR : Hid (0 < E → ∀ q, (Value.slice An E cn).ownBlock = some q → q < wr.heap.size) := fun h0 => own_size HOA.out (by rw [HPL.out]; exact h0)
                        have HW3R : Hid (w3.heap.size ≤ wz.heap.size ∧ w3.heap.size ≤ wr.heap.size) := ⟨HZ0.out, HGA.out.size⟩
                        clear HO
                        go_loopw [15] (fun v wt => ∃ x : Nat, x ≤ lb ∧ v = .int .i64 x ∧ OwnB wt wz.heap.size (.slice An E cn) (overZ (padN X.now E) k' (b.take x)) ∧ Own wt wr.heap.size 1 (.slice Am mm cm) mm (blL (hitI X.loose mm k' x)) ∧ w3.grownBy wt none) (fun v _ => lb - (intOf v).toNat)
                        case atStart => exact ⟨0, Nat.zero_le _, rfl, HOA2.out, HO3.out, HG3.out⟩
                        case round =>
                          obtain ⟨x, hx, rfl, ho1, ho2, hg⟩ := hrel
                          rename World => wt
                          by_cases hltx : x < lb
                          · have hxb : x < b.length := by rw [← HLB.out]; exact hltx
                            have hxi : (x : Int) < (lb : Int) := by omega
                            have hx0 : (0 : Int) ≤ (x : Int) := by omega
                            obtain ⟨p, hp⟩ : ∃ p, p = k' + x := ⟨_, rfl⟩
                            have hpE : p < E := by omega
                            obtain ⟨s, hs⟩ : ∃ s, s = p / 64 := ⟨_, rfl⟩
                            have hsm' : s < mm := by
                              have h5 := sec_lt hpE
                              have h6 := HT1.out
                              omega
                            obtain ⟨gb, ob, eb, hlb2, cb1⟩ := rd_byte (HBW.out wt (gr_none G3.out hg)) hxb
                            subst eb
                            obtain ⟨u, hu⟩ : ∃ u, u = b[x] := ⟨_, rfl⟩
                            rw [← hu] at cb1
                            have hbl2 : k' + b.length ≤ (padN X.now E).length := by rw [HPL.out, ← HLB.out]; exact hkE
                            obtain ⟨g1, o1, g2, o2, e1, e2, hle1, hle2, hB1, hB2, ⟨v1, cv1⟩, cf1, ⟨v2, cv2⟩, cf2, hs1, hs2⟩ := store2 ho1 ho2 (hWR.out (by omega)) (p := p) (s := s) (by rw [overZ_len2 (by rw [List.length_take, Nat.min_eq_left (Nat.le_of_lt hxb)]; omega), HPL.out]; exact hpE) hsm' u
                            subst e1 e2
                            rw [hu, hp, overZ_step hxb hbl2, ← hp, ← hu] at hs1
                            rw [hs, hp, hitI_step, ← hp, ← hs] at hs2
                            have hpi : (k' : Int) + (x : Int) = (p : Int) := by omega
                            have hp0 : (0 : Int) ≤ (p : Int) := by omega
                            have hp1 : (p : Int) < (E : Int) := by omega
                            have hq64 : IntKind.i64.wrap ((p : Int).tdiv 64) = (s : Int) := by rw [quo64 (by omega), hs]
                            rw [hs] at hq64 hsm' cv2 cf2 hs1 hs2
                            have hq65 : ((p / 64 : Nat) : Int) = (p : Int) / 64 := by omega
                            have hs0 : (0 : Int) ≤ (p : Int) / 64 := by omega
                            have hs9 : (p : Int) / 64 < (mm : Int) := by omega
                            have cf3 : wt.frozen? ⟨g2, o2 + p / 64, none⟩ = false := by simpa using cf2
                            have HS1 := Lib.hid hs1
                            have HS2 := Lib.hid hs2
                            have HGT : Hid (w3.grownBy ((wt.setCell ⟨g1, o1 + p, none⟩ (.int .u8 u.toNat)).setCell ⟨g2, o2 + p / 64, none⟩ (.bool true)) none) := gr_trans (gr_trans hg (gr_setCell wt ⟨g1, o1 + p, none⟩ _) (.inr fun q e => by cases e; exact Nat.le_trans HW3R.out.1 hB1)) (gr_setCell _ ⟨g2, o2 + p / 64, none⟩ _) (.inr fun q e => by cases e; exact Nat.le_trans HW3R.out.2 hB2)
                            clear hs1 hs2 ho1 ho2 hg hp hs hu hbl2 hpE hsm' hq65
                            go_wp2_with fail
                            go_roundw
                            case rel => exact ⟨x + 1, by omega, by go_num, HS1.out, HS2.out, HGT.out⟩
                            case measure => simp [intOf] <;> omega
                          · obtain rfl : lb = x := by omega
                            have hxi : ¬ (lb : Int) < (lb : Int) := by omega
                            have HO4 : Hid (OwnB wt w3.heap.size (.slice An E cn) (overZ X.now k' b)) := by
                              have h5 := ho1
                              rw [List.take_of_length_le (by rw [HLB.out]; exact Nat.le_refl _)] at h5
                              have h6 := overZ_pad (l := X.now) (b := b) (p := k') (by rw [← HMM.out.1]; exact hkM)
                              rw [← HMM.out.1, ← HLB.out, ← HEE.out] at h6
                              rw [h6] at h5
                              exact Own.mono h5 HW3R.out.1
                            have HLN : Hid ((overZ X.now k' b).length = E) := by
                              have h6 := overZ_pad (l := X.now) (b := b) (p := k') (by rw [← HMM.out.1]; exact hkM)
                              rw [← HMM.out.1, ← HLB.out, ← HEE.out] at h6
                              show _ = _
                              rw [← h6, overZ_len2 (by rw [HPL.out, ← HLB.out]; exact hkE), HPL.out]
                            have hmmL : mm ≤ 262144 := by have := HM.out; rw [← HMM.out.2.2] at this; omega
                            obtain ⟨hrv, hch⟩ := wrote_mem (H2.out.ext G3.out) hiN hi hg HO4.out (Own.mono ho2 HW3R.out.2) (by rw [HLN.out]; exact hEE) (hitI_len _ _ _ _) hmmL
                            have hcl := (H2.out.ext (gr_none G3.out hg)).cellsA hiN hi
                            have f1 := hcl.2.2.2.2.1 1 (by omega)
                            have f3 := hcl.2.2.2.2.1 3 (by omega)
                            have y1 := hcl.2.1
                            have y3 := hcl.2.2.2.1
                            have y0 : wt.cell? ⟨r, 0, none⟩ = some (.slice (some ⟨gl, offl, none⟩) N c) := (gr_none G3.out hg).cell s0 (by simp)
                            have HRV := Lib.hid hrv
                            have HCH := Lib.hid hch
                            have HGF := Lib.hid hg.size
                            clear hrv hch ho1 ho2 hg hcl
                            have HL : Hid ((l.set i { l[i] with nv := .slice An E cn, now := overZ X.now k' b, sv := .slice Am mm cm, loose := hitI X.loose mm k' lb }).map Rm.rf = (R1.wrote n k' b).L) := by
                              show _ = setR R1.L n _
                              rw [← HLL.out]
                              refine setR_map (by have := HND.out; rw [← HL1.out, ← HLL.out, List.map_map] at this; exact this) hi (by rw [← HX.out]; exact HNI.out) ?_
                              show (⟨l[i].n, overZ X.now k' b, l[i].lasts, hitI X.loose mm k' lb⟩ : Rf) = ⟨l[i].n, overZ l[i].now k' b, l[i].lasts, hitI l[i].loose (max l[i].loose.length (sectors (max l[i].now.length (k' + b.length)))) k' b.length⟩
                              rw [← HX.out, HM.out, HT1.out, HEE.out, HMM.out.1, HLB.out]
                            have hc := CH2.out.trans ((Ch.ext G3.out).trans HCH.out)
                            have HC9 : Hid (Ch O w (growO O w3 wt) _) := ⟨hc.os, hc.tape, hc.output, hc.size, hc.block, growO_free (fun _ _ h => h) (Nat.le_trans CH2.out.size G3.out.size)⟩
                            clear hc HCH
                            go_wp2_with fail
                            go_ret
                            exact ⟨by rw [HR.out]; rfl, by rw [HR.out]; exact ⟨_, ⟨_, _, _, _, HRV.out, HL.out⟩, HC9.out⟩⟩
            · have hme : T1 = T0 := by omega
              have hmi : ¬ (0 : Int) < (T1 : Int) - (T0 : Int) := by omega
              have hmd : decide ((0 : Int) < (T1 : Int) - (T0 : Int)) = false := decide_eq_false hmi
              have HR : Hid (R.write n (k' : Int) b = (R1.wrote n k' b, 0)) := by show _ = _; rw [HCR.out, if_neg fun h => hmi h.1]
              clear hme HCR
              go_wp2_with fail
              refine wp_region_held_drew (S := fun _ => True) (by kernel_rfl) ?_ (fun hHeld => ?_)
              · trivial
              first
                | (refine wpAnyH_take (i := 0) (oi := _) (v := ?vop1) (by simp only [List.getElem?_toArray, List.getElem?_cons_zero]; rfl) (by kernel_rfl) (by kernel_rfl) (by kernel_rfl) (by exact fun _ _ _ h => h) (Or.inl ⟨by rfl, ?hyop1⟩) (by assumption) ?restop1
                   case hyop1 => (intro w hSw; (try dsimp only at hSw); go_simp; try (with_reducible rfl)))
                | refine wpAnyH_take (i := 0) (oi := _) (v := undef) (by simp only [List.getElem?_toArray, List.getElem?_cons_zero]; rfl) (by kernel_rfl) (by kernel_rfl) (by kernel_rfl) (by exact fun _ _ _ h => h) (Or.inr ⟨by rfl, rfl⟩) (by assumption) ?_
              try simp only [Act.put, List.setIfInBounds_toArray, List.set_cons_zero, List.set_cons_succ]
              first
                | (refine wpAnyH_take (i := 1) (oi := _) (v := ?vop2) (by simp only [List.getElem?_toArray, List.getElem?_cons_succ, List.getElem?_cons_zero]; rfl) (by kernel_rfl) (by kernel_rfl) (by kernel_rfl) (by exact fun _ _ _ h => h) (Or.inl ⟨by rfl, ?hyop2⟩) (by assumption) ?restop2
                   case hyop2 => (intro w hSw; (try dsimp only at hSw); go_simp; try (with_reducible rfl)))
                | refine wpAnyH_take (i := 1) (oi := _) (v := undef) (by simp only [List.getElem?_toArray, List.getElem?_cons_succ, List.getElem?_cons_zero]; rfl) (by kernel_rfl) (by kernel_rfl) (by kernel_rfl) (by exact fun _ _ _ h => h) (Or.inr ⟨by rfl, rfl⟩) (by assumption) ?_
              try simp only [Act.put, List.setIfInBounds_toArray, List.set_cons_zero, List.set_cons_succ]
              first
                | (refine wpAnyH_take (i := 2) (oi := _) (v := ?vop3) (by simp only [List.getElem?_toArray, List.getElem?_cons_succ, List.getElem?_cons_zero]; rfl) (by kernel_rfl) (by kernel_rfl) (by kernel_rfl) (by exact fun _ _ _ h => h) (Or.inl ⟨by rfl, ?hyop3⟩) (by assumption) ?restop3
                   case hyop3 => (intro w hSw; (try dsimp only at hSw); go_simp; try (with_reducible rfl)))
                | refine wpAnyH_take (i := 2) (oi := _) (v := undef) (by simp only [List.getElem?_toArray, List.getElem?_cons_succ, List.getElem?_cons_zero]; rfl) (by kernel_rfl) (by kernel_rfl) (by kernel_rfl) (by exact fun _ _ _ h => h) (Or.inr ⟨by rfl, rfl⟩) (by assumption) ?_
              try simp only [Act.put, List.setIfInBounds_toArray, List.set_cons_zero, List.set_cons_succ]
              refine wpAnyH_take (i := 3) (oi := _) (v := undef) (by simp only [List.getElem?_toArray, List.getElem?_cons_succ, List.getElem?_cons_zero]; rfl) (by kernel_rfl) (by kernel_rfl) (by kernel_rfl) (by exact fun _ _ _ h => h) (Or.inr ⟨by rfl, rfl⟩) (by assumption) ?_
              try simp only [Act.put, List.setIfInBounds_toArray, List.set_cons_zero, List.set_cons_succ]
              refine wpAnyH_take (i := 4) (oi := _) (v := undef) (by simp only [List.getElem?_toArray, List.getElem?_cons_succ, List.getElem?_cons_zero]; rfl) (by kernel_rfl) (by kernel_rfl) (by kernel_rfl) (by exact fun _ _ _ h => h) (Or.inr ⟨by rfl, rfl⟩) (by assumption) ?_
              try simp only [Act.put, List.setIfInBounds_toArray, List.set_cons_zero, List.set_cons_succ]
              refine wpAnyH_take (i := 5) (oi := _) (v := undef) (by simp only [List.getElem?_toArray, List.getElem?_cons_succ, List.getElem?_cons_zero]; rfl) (by kernel_rfl) (by kernel_rfl) (by kernel_rfl) (by exact fun _ _ _ h => h) (Or.inr ⟨by rfl, rfl⟩) (by assumption) ?_
              try simp only [Act.put, List.setIfInBounds_toArray, List.set_cons_zero, List.set_cons_succ]
              refine wpAnyH_take (i := 6) (oi := _) (v := undef) (by simp only [List.getElem?_toArray, List.getElem?_cons_succ, List.getElem?_cons_zero]; rfl) (by kernel_rfl) (by kernel_rfl) (by kernel_rfl) (by exact fun _ _ _ h => h) (Or.inr ⟨by rfl, rfl⟩) (by assumption) ?_
              try simp only [Act.put, List.setIfInBounds_toArray, List.set_cons_zero, List.set_cons_succ]
              refine wpAnyH_take (i := 7) (oi := _) (v := undef) (by simp only [List.getElem?_toArray, List.getElem?_cons_succ, List.getElem?_cons_zero]; rfl) (by kernel_rfl) (by kernel_rfl) (by kernel_rfl) (by exact fun _ _ _ h => h) (Or.inr ⟨by rfl, rfl⟩) (by assumption) ?_
              try simp only [Act.put, List.setIfInBounds_toArray, List.set_cons_zero, List.set_cons_succ]
              refine wpAnyH_take (i := 8) (oi := _) (v := undef) (by simp only [List.getElem?_toArray, List.getElem?_cons_succ, List.getElem?_cons_zero]; rfl) (by kernel_rfl) (by kernel_rfl) (by kernel_rfl) (by exact fun _ _ _ h => h) (Or.inr ⟨by rfl, rfl⟩) (by assumption) ?_
              try simp only [Act.put, List.setIfInBounds_toArray, List.set_cons_zero, List.set_cons_succ]
              refine wpAnyH_take (i := 9) (oi := _) (v := undef) (by simp only [List.getElem?_toArray, List.getElem?_cons_succ, List.getElem?_cons_zero]; rfl) (by kernel_rfl) (by kernel_rfl) (by kernel_rfl) (by exact fun _ _ _ h => h) (Or.inr ⟨by rfl, rfl⟩) (by assumption) ?_
              try simp only [Act.put, List.setIfInBounds_toArray, List.set_cons_zero, List.set_cons_succ]
              refine wpAnyH_take (i := 10) (oi := _) (v := undef) (by simp only [List.getElem?_toArray, List.getElem?_cons_succ, List.getElem?_cons_zero]; rfl) (by kernel_rfl) (by kernel_rfl) (by kernel_rfl) (by exact fun _ _ _ h => h) (Or.inr ⟨by rfl, rfl⟩) (by assumption) ?_
              try simp only [Act.put, List.setIfInBounds_toArray, List.set_cons_zero, List.set_cons_succ]
              refine wpAnyH_take (i := 11) (oi := _) (v := undef) (by simp only [List.getElem?_toArray, List.getElem?_cons_succ, List.getElem?_cons_zero]; rfl) (by kernel_rfl) (by kernel_rfl) (by kernel_rfl) (by exact fun _ _ _ h => h) (Or.inr ⟨by rfl, rfl⟩) (by assumption) ?_
              try simp only [Act.put, List.setIfInBounds_toArray, List.set_cons_zero, List.set_cons_succ]
              first
                | (refine wpAnyH_take (i := 12) (oi := _) (v := ?vop4) (by simp only [List.getElem?_toArray, List.getElem?_cons_succ, List.getElem?_cons_zero]; rfl) (by kernel_rfl) (by kernel_rfl) (by kernel_rfl) (by exact fun _ _ _ h => h) (Or.inl ⟨by rfl, ?hyop4⟩) (by assumption) ?restop4
                   case hyop4 => (intro w hSw; (try dsimp only at hSw); go_simp; try (with_reducible rfl)))
                | refine wpAnyH_take (i := 12) (oi := _) (v := undef) (by simp only [List.getElem?_toArray, List.getElem?_cons_succ, List.getElem?_cons_zero]; rfl) (by kernel_rfl) (by kernel_rfl) (by kernel_rfl) (by exact fun _ _ _ h => h) (Or.inr ⟨by rfl, rfl⟩) (by assumption) ?_
              try simp only [Act.put, List.setIfInBounds_toArray, List.set_cons_zero, List.set_cons_succ]
              refine wpAnyH_done (by kernel_rfl) ?_ _
              obtain ⟨wz, hwz⟩ : ∃ wz, wz = wq.drew := ⟨_, rfl⟩
              have hgz : w3.grownBy wz none := by rw [hwz]; exact gr_none GQ.out (gr_drew _ _)
              rw [← hwz]
              have GZ := Lib.hid hgz
              clear hwz hgz q1
              have b1z : (wz.alloc (.cells #[] 5)).cell? ⟨w2.heap.size, 1, none⟩ = some (.slice A1 M1 d1) := (gr_none GZ.out (gr_alloc _ _ none)).cell b1 (by simp)
              have HZ0 : Hid (w3.heap.size ≤ wz.heap.size) := GZ.out.size
              have HX1 : Hid (M1 = X.now.length) := HMM.out.1
              clear b1
              go_wp2_with (at_builtin; refine wp_appB (m := X.now) (l := []) rfl (.tmp 77) (.tmp 79) rfl rfl (own_empty wz wz.heap.size (Nat.le_refl _)) rfl (HR1.out.ext (gr_none G3.out (gr_none GZ.out (gr_alloc _ _ none)))) (by rw [← HX1.out]; show 0 + M1 ≤ _; omega) (by rw [World.size_alloc]; omega) ?_; rintro v5 w5 o5 g5 -; obtain ⟨A5, c5, ev5⟩ := RdB.form (OwnB.rd o5); rw [List.nil_append, ← HX1.out] at ev5; subst ev5; rw [List.nil_append] at o5; have gz5 : wz.grownBy w5 none := gr_trans (gr_alloc _ _ none) g5 (.inr fun q e => by cases e; exact Nat.le_refl _); have O5 := Lib.hid o5; have GZ5 := Lib.hid gz5; clear o5 g5 gz5)
              go_loopw [13] (fun v wr => ∃ (n : Nat) (An : Option Addr) (cn : Nat), M1 ≤ n ∧ n ≤ E ∧ v = .slice An n cn ∧ OwnB wr wz.heap.size (.slice An n cn) (padN X.now n) ∧ wz.grownBy wr none) (fun v _ => E - lenV v)
              case atStart => exact ⟨M1, A5, c5, Nat.le_refl _, hM1E, rfl, by have := O5.out; rw [HX1.out, padN_self]; rw [HX1.out] at this; exact this, GZ5.out⟩
              case round =>
                obtain ⟨n', An, cn, hn1, hn2, rfl, ho, hg⟩ := hrel
                rename World => wr
                by_cases hlt1 : n' < E
                · have hle : (n' : Int) < (E : Int) := by omega
                  have HO := Lib.hid ho
                  have HGR := Lib.hid hg
                  have hlenp : (padN X.now n').length = n' := padN_len (by rw [← HX1.out]; exact hn1)
                  have HLP := Lib.hid hlenp
                  clear ho hg hlenp
                  go_wp2_with (at_builtin; refine wp_app1B 0 0 rfl rfl (.tmp 85) (.tmp 86) rfl rfl HO.out rfl (by rw [HLP.out]; omega) HGR.out.size ?_; rintro v6 w6 o6 g6 -; obtain ⟨A6, c6, ev6⟩ := RdB.form (OwnB.rd o6); rw [List.length_append, HLP.out] at ev6; subst ev6; have O6 := Lib.hid o6; have G6 : Hid (wz.grownBy w6 none) := gr_trans (gr_none HGR.out (gr_refl _ _)) g6 (.inr fun q e => Own.lt HO.out q e); clear o6 g6)
                  go_roundw
                  case rel => exact ⟨n' + 1, A6, c6, by omega, by omega, rfl, by rw [← padN_succ (by rw [← HX1.out]; exact hn1)]; exact O6.out, G6.out⟩
                  case measure => simp [lenV]; omega
                · obtain rfl : E = n' := by omega
                  have hle : ¬ (E : Int) < (E : Int) := by omega
                  have HO := Lib.hid ho
                  have HGR := Lib.hid (gr_none GZ.out hg)
                  have HSZ0 := Lib.hid hg.size
                  have b3z : (wr.alloc (.cells #[] 4)).cell? ⟨w2.heap.size, 3, none⟩ = some (.slice A3 M3 d3) := (gr_none HGR.out (gr_alloc _ _ none)).cell (HBK.out.cell 3) (by simp)
                  have HZ3 : Hid (∀ wx, w2.grownBy wx none → Rd wx 1 (.slice A3 M3 d3) M3 (blL X.loose)) := fun wx g => HR3.out.ext g
                  clear ho hg b1z
                  go_wp2_with (at_builtin; refine wp_appBl (B := wr.heap.size) (l := []) (m := X.loose) rfl (.tmp 88) (.tmp 90) rfl rfl (own_Bl0 wr wr.heap.size (Nat.le_refl _)) rfl (HZ3.out _ (gr_none G3.out (gr_none HGR.out (gr_alloc _ _ none)))) (by show 0 + M3 ≤ _; omega) (by rw [World.size_alloc]; omega) ?_; rintro v8 w8 o8 g8; rw [List.nil_append, show ([] : List Bool).length + M3 = M3 from Nat.zero_add _] at o8; obtain ⟨_, A8, c8, _, _, ev8, _⟩ := id o8; subst ev8; have O8 := Lib.hid o8; have G8 : Hid (wr.grownBy w8 none) := gr_trans (gr_alloc _ _ none) g8 (.inr fun q e => by cases e; exact Nat.le_refl _); clear o8 g8)
                  have HOA : Hid (OwnB wr wz.heap.size (.slice An E cn) (padN X.now E)) := HO.out
                  have HGA : Hid (w3.grownBy wr none) := HGR.out
                  have HSZ : Hid (wz.heap.size ≤ wr.heap.size ∧ wr.heap.size ≤ w8.heap.size) := ⟨HSZ0.out, G8.out.size⟩
                  have HSE2 := Lib.hid (fun wx => rsectors_any E wx (by omega))
                  rw [← HT1.out] at HSE2
                  go_loopw [14] (fun v wv => ∃ (m : Nat) (Am : Option Addr) (cm : Nat), M3 ≤ m ∧ m ≤ max M3 T1 ∧ v = .slice Am m cm ∧ Own wv wr.heap.size 1 (.slice Am m cm) m (blL (padF X.loose m)) ∧ wr.grownBy wv none) (fun v _ => max M3 T1 - lenV v)
                  case atStart => exact ⟨M3, A8, c8, Nat.le_refl _, by omega, rfl, by have := O8.out; rw [HMM.out.2.2, padF_self]; rw [HMM.out.2.2] at this; exact this, G8.out⟩
                  case round =>
                    obtain ⟨m, Am, cm, hm1, hm2, rfl, ho, hg⟩ := hrel
                    rename World => wv
                    have hm2' : m ≤ M3 ∨ m ≤ T1 := by omega
                    have HO2 := Lib.hid ho
                    have HG2 := Lib.hid hg
                    clear ho hg
                    by_cases hlt2 : m < T1
                    · have hlm : (m : Int) < (T1 : Int) := by omega
                      have hlen : (padF X.loose m).length = m := by rw [padF_len, ← HMM.out.2.2]; omega
                      have HLF := Lib.hid hlen
                      clear hlen
                      go_wp2_with fail
                      refine (HSE2.out _).mono ?_
                      rintro e w9 ⟨rfl, rfl⟩
                      go_wp2_with (at_builtin; refine wp_app1Bl (B := wr.heap.size) (l := padF X.loose m) false rfl (.tmp 97) (.tmp 98) rfl rfl ?hown _ rfl rfl ?hn ?hB ?_; (case hown => rw [HLF.out]; exact HO2.out); (case hn => rw [HLF.out]; omega); (case hB => exact HG2.out.size); rintro v6 w6 o6 g6; rw [List.length_append, HLF.out] at o6; obtain ⟨_, A6, c6, _, _, ev6, _⟩ := id o6; subst ev6; have O6 := Lib.hid o6; have G6 : Hid (wr.grownBy w6 none) := gr_trans HG2.out g6 (.inr fun q e => Own.lt HO2.out q e); clear o6 g6)
                      go_roundw
                      case rel => exact ⟨m + 1, A6, c6, by omega, by omega, rfl, by rw [← padF_succ (by rw [← HMM.out.2.2]; exact hm1)]; exact O6.out, G6.out⟩
                      case measure => simp [lenV]; omega
                    · have hlm : ¬ (m : Int) < (T1 : Int) := by omega
                      obtain ⟨mm, hmm⟩ : ∃ mm, mm = max M3 T1 := ⟨_, rfl⟩
                      rw [← hmm] at hm2
                      obtain rfl : mm = m := by omega
                      have hT1m : T1 ≤ mm := by omega
                      have HM : Hid (mm = max X.loose.length T1) := by show _ = _; rw [hmm, HMM.out.2.2]
                      have HO3 : Hid (Own wv wr.heap.size 1 (.slice Am mm cm) mm (blL (hitI X.loose mm k' 0))) := by
                        have h5 := HO2.out
                        have h6 := hitI_zero X.loose (m := T1) k'
                        rw [← HM.out] at h6
                        rw [h6, ← show padF X.loose mm = padF X.loose T1 by rw [HM.out, padF_max]]
                        exact h5
                      clear hm2 hm2' hm1 hmm HO2
                      go_wp2_with fail
                      refine (HSE2.out _).mono ?_
                      rintro e w9 ⟨rfl, rfl⟩
                      go_wp2_with fail
                      have HOA2 : Hid (OwnB wv wz.heap.size (.slice An E cn) (overZ (padN X.now E) k' (b.take 0))) := by
                        have h5 := HOA.out.ext HG2.out
                        show OwnB _ _ _ _
                        rw [List.take_zero, overZ_nil]; exact h5
                      have HG3 : Hid (w3.grownBy wv none) := gr_none HGA.out HG2.out
                      have HPL : Hid ((padN X.now E).length = E) := padN_len (by rw [← HMM.out.1]; exact hn1)
                      have hWR : Hid (0 < E → ∀ q, (Value.slice An E cn).ownBlock = some q → q < wr.heap.size) := fun h0 => own_size HOA.out (by rw [HPL.out]; exact h0)
                      have HW3R : Hid (w3.heap.size ≤ wz.heap.size ∧ w3.heap.size ≤ wr.heap.size) := ⟨HZ0.out, HGA.out.size⟩
                      clear HO
                      go_loopw [15] (fun v wt => ∃ x : Nat, x ≤ lb ∧ v = .int .i64 x ∧ OwnB wt wz.heap.size (.slice An E cn) (overZ (padN X.now E) k' (b.take x)) ∧ Own wt wr.heap.size 1 (.slice Am mm cm) mm (blL (hitI X.loose mm k' x)) ∧ w3.grownBy wt none) (fun v _ => lb - (intOf v).toNat)
                      case atStart => exact ⟨0, Nat.zero_le _, rfl, HOA2.out, HO3.out, HG3.out⟩
                      case round =>
                        obtain ⟨x, hx, rfl, ho1, ho2, hg⟩ := hrel
                        rename World => wt
                        by_cases hltx : x < lb
                        · have hxb : x < b.length := by rw [← HLB.out]; exact hltx
                          have hxi : (x : Int) < (lb : Int) := by omega
                          have hx0 : (0 : Int) ≤ (x : Int) := by omega
                          obtain ⟨p, hp⟩ : ∃ p, p = k' + x := ⟨_, rfl⟩
                          have hpE : p < E := by omega
                          obtain ⟨s, hs⟩ : ∃ s, s = p / 64 := ⟨_, rfl⟩
                          have hsm' : s < mm := by
                            have h5 := sec_lt hpE
                            have h6 := HT1.out
                            omega
                          obtain ⟨gb, ob, eb, hlb2, cb1⟩ := rd_byte (HBW.out wt (gr_none G3.out hg)) hxb
                          subst eb
                          obtain ⟨u, hu⟩ : ∃ u, u = b[x] := ⟨_, rfl⟩
                          rw [← hu] at cb1
                          have hbl2 : k' + b.length ≤ (padN X.now E).length := by rw [HPL.out, ← HLB.out]; exact hkE
                          obtain ⟨g1, o1, g2, o2, e1, e2, hle1, hle2, hB1, hB2, ⟨v1, cv1⟩, cf1, ⟨v2, cv2⟩, cf2, hs1, hs2⟩ := store2 ho1 ho2 (hWR.out (by omega)) (p := p) (s := s) (by rw [overZ_len2 (by rw [List.length_take, Nat.min_eq_left (Nat.le_of_lt hxb)]; omega), HPL.out]; exact hpE) hsm' u
                          subst e1 e2
                          rw [hu, hp, overZ_step hxb hbl2, ← hp, ← hu] at hs1
                          rw [hs, hp, hitI_step, ← hp, ← hs] at hs2
                          have hpi : (k' : Int) + (x : Int) = (p : Int) := by omega
                          have hp0 : (0 : Int) ≤ (p : Int) := by omega
                          have hp1 : (p : Int) < (E : Int) := by omega
                          have hq64 : IntKind.i64.wrap ((p : Int).tdiv 64) = (s : Int) := by rw [quo64 (by omega), hs]
                          rw [hs] at hq64 hsm' cv2 cf2 hs1 hs2
                          have hq65 : ((p / 64 : Nat) : Int) = (p : Int) / 64 := by omega
                          have hs0 : (0 : Int) ≤ (p : Int) / 64 := by omega
                          have hs9 : (p : Int) / 64 < (mm : Int) := by omega
                          have cf3 : wt.frozen? ⟨g2, o2 + p / 64, none⟩ = false := by simpa using cf2
                          have HS1 := Lib.hid hs1
                          have HS2 := Lib.hid hs2
                          have HGT : Hid (w3.grownBy ((wt.setCell ⟨g1, o1 + p, none⟩ (.int .u8 u.toNat)).setCell ⟨g2, o2 + p / 64, none⟩ (.bool true)) none) := gr_trans (gr_trans hg (gr_setCell wt ⟨g1, o1 + p, none⟩ _) (.inr fun q e => by cases e; exact Nat.le_trans HW3R.out.1 hB1)) (gr_setCell _ ⟨g2, o2 + p / 64, none⟩ _) (.inr fun q e => by cases e; exact Nat.le_trans HW3R.out.2 hB2)
                          clear hs1 hs2 ho1 ho2 hg hp hs hu hbl2 hpE hsm' hq65
                          go_wp2_with fail
                          go_roundw
                          case rel => exact ⟨x + 1, by omega, by go_num, HS1.out, HS2.out, HGT.out⟩
                          case measure => simp [intOf] <;> omega
                        · obtain rfl : lb = x := by omega
                          have hxi : ¬ (lb : Int) < (lb : Int) := by omega
                          have HO4 : Hid (OwnB wt w3.heap.size (.slice An E cn) (overZ X.now k' b)) := by
                            have h5 := ho1
                            rw [List.take_of_length_le (by rw [HLB.out]; exact Nat.le_refl _)] at h5
                            have h6 := overZ_pad (l := X.now) (b := b) (p := k') (by rw [← HMM.out.1]; exact hkM)
                            rw [← HMM.out.1, ← HLB.out, ← HEE.out] at h6
                            rw [h6] at h5
                            exact Own.mono h5 HW3R.out.1
                          have HLN : Hid ((overZ X.now k' b).length = E) := by
                            have h6 := overZ_pad (l := X.now) (b := b) (p := k') (by rw [← HMM.out.1]; exact hkM)
                            rw [← HMM.out.1, ← HLB.out, ← HEE.out] at h6
                            show _ = _
                            rw [← h6, overZ_len2 (by rw [HPL.out, ← HLB.out]; exact hkE), HPL.out]
                          have hmmL : mm ≤ 262144 := by have := HM.out; rw [← HMM.out.2.2] at this; omega
                          obtain ⟨hrv, hch⟩ := wrote_mem (H2.out.ext G3.out) hiN hi hg HO4.out (Own.mono ho2 HW3R.out.2) (by rw [HLN.out]; exact hEE) (hitI_len _ _ _ _) hmmL
                          have hcl := (H2.out.ext (gr_none G3.out hg)).cellsA hiN hi
                          have f1 := hcl.2.2.2.2.1 1 (by omega)
                          have f3 := hcl.2.2.2.2.1 3 (by omega)
                          have y1 := hcl.2.1
                          have y3 := hcl.2.2.2.1
                          have y0 : wt.cell? ⟨r, 0, none⟩ = some (.slice (some ⟨gl, offl, none⟩) N c) := (gr_none G3.out hg).cell s0 (by simp)
                          have HRV := Lib.hid hrv
                          have HCH := Lib.hid hch
                          have HGF := Lib.hid hg.size
                          clear hrv hch ho1 ho2 hg hcl
                          have HL : Hid ((l.set i { l[i] with nv := .slice An E cn, now := overZ X.now k' b, sv := .slice Am mm cm, loose := hitI X.loose mm k' lb }).map Rm.rf = (R1.wrote n k' b).L) := by
                            show _ = setR R1.L n _
                            rw [← HLL.out]
                            refine setR_map (by have := HND.out; rw [← HL1.out, ← HLL.out, List.map_map] at this; exact this) hi (by rw [← HX.out]; exact HNI.out) ?_
                            show (⟨l[i].n, overZ X.now k' b, l[i].lasts, hitI X.loose mm k' lb⟩ : Rf) = ⟨l[i].n, overZ l[i].now k' b, l[i].lasts, hitI l[i].loose (max l[i].loose.length (sectors (max l[i].now.length (k' + b.length)))) k' b.length⟩
                            rw [← HX.out, HM.out, HT1.out, HEE.out, HMM.out.1, HLB.out]
                          have hc := CH2.out.trans ((Ch.ext G3.out).trans HCH.out)
                          have HC9 : Hid (Ch O w (growO O w3 wt) _) := ⟨hc.os, hc.tape, hc.output, hc.size, hc.block, growO_free (fun _ _ h => h) (Nat.le_trans CH2.out.size G3.out.size)⟩
                          clear hc HCH
                          go_wp2_with fail
                          go_ret
                          exact ⟨by rw [HR.out]; rfl, by rw [HR.out]; exact ⟨_, ⟨_, _, _, _, HRV.out, HL.out⟩, HC9.out⟩⟩
      · have HR : Hid (R.write n k b = (R1, 3)) := by
          show _ = _
          have hf2 : R1.find n = none := hf
          rw [HC.out, if_neg (by rw [hd]; simp), if_neg hbad, ← HF1.out, hf2]
        have HX : Hid (RS w0 w2 r O R1) := ⟨A, N, c, l, HV.out.ext g2, HLL.out⟩
        clear hd g2 hf hz hbad
        go_wp2_with fail
        go_ret
        exact ⟨by rw [HR.out]; rfl, by rw [HR.out]; exact ⟨O, HX.out, CH2.out⟩⟩
end
end Go.Proofs.YtipankjajdpiiaaGreat
