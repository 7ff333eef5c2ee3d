/-
  PoolBack: the walk.
-/
import Derived.Test.YtkpmadahfmpeiaaGreatQl1
import Derived.Test.YtkpmadahfmpeiaaGreatQl
namespace Go.Proofs.YtkpmadahfmpeiaaGreat
open Go.RowKit Go.Maps
set_option maxRecDepth 100000
set_option maxHeartbeats 400000

set_option maxHeartbeats 8000000 in
theorem pback_any (fr : Int) (v : Value) (l : List OpQ) (w : World) (h : RdQ w v l) : Calls Tryz.prog 3 #[.int .i64 fr, v] w fun e w' => e = .returned (.bool true) ∧ w.grownBy w' none := by
  have HV := Lib.hid (vastQ_any fr v l w h)
  have HWK := Lib.hid (fun wx => works10_any wx)
  obtain ⟨A, c, rfl⟩ := h.form
  by_cases hbad : vastQ fr l = true ∨ fr < 1
  · have hb3 : (vastQ fr l = true) ∨ (vastQ fr l = false ∧ fr < 1) := by
      cases e : vastQ fr l with
      | true => exact .inl rfl
      | false =>
        rw [e] at hbad
        rcases hbad with h9 | h9
        · cases h9
        · exact .inr ⟨rfl, h9⟩
    clear h hbad
    rcases hb3 with hv | ⟨hv, h1⟩
    all_goals
      go_enter Tryz.func3, Tryz.ntmps3
      go_wp2_with fail
      refine HV.out.mono ?_
      rintro e w1 ⟨rfl, g1⟩
      have G1 := Lib.hid g1
      rw [hv]
      clear g1 HV
      go_wp2_with fail
      refine (HWK.out w1).mono ?_
      rintro e w9 ⟨rfl, g9⟩
      have G9 := Lib.hid g9
      clear g9 HWK
      go_wp2_with fail
      go_ret
      exact ⟨rfl, gr_none G1.out G9.out⟩
  · have hv : vastQ fr l = false := by
      cases e : vastQ fr l with
      | false => rfl
      | true => exact absurd (.inl e) hbad
    obtain ⟨hn, hf2, hsum⟩ := vastQ_no hv
    have hfb : ¬ fr < 1 := fun e => hbad (.inr e)
    obtain ⟨fl, rfl⟩ : ∃ fl : Nat, fr = (fl : Int) := ⟨fr.toNat, by omega⟩
    have HNEW := Lib.hid (fun wx => DA.new 65536 wx (by omega))
    have HN := Lib.hid hn
    have HRT := Lib.hid h
    have HSUM := Lib.hid hsum
    have HFL : Hid (1 ≤ fl ∧ fl ≤ 64) := by show _ ∧ _; omega
    clear h hn hf2 hsum hbad
    go_enter Tryz.func3, Tryz.ntmps3
    go_wp2_with fail
    refine HV.out.mono ?_
    rintro e w1 ⟨rfl, g1⟩
    have G1 := Lib.hid g1
    rw [hv]
    clear g1 HV
    go_wp2_with fail
    refine (HNEW.out w1).mono ?_
    rintro e w2 ⟨d, o, rfl, h2⟩
    have HPO := Lib.hid (PF.new h2 fl HFL.out.1 HFL.out.2)
    clear h2 HNEW
    go_wp2_with fail
    refine HPO.out.mono ?_
    rintro e w3 ⟨p, O3, rfl, h3, -⟩
    have H3 := Lib.hid h3
    clear h3 HPO
    go_wp2_with fail
    have hnn := HN.out
    clear hv hfb
    go_loopw [8, 9, 10, 11, 12, 13, 14, 15, 16] (fun lv iv _ _ _ _ _ _ _ wr => ∃ (k m : Nat) (B : List Bk) (O : Own1), k ≤ l.length ∧ iv = .int .i64 k ∧ m ≤ k ∧ B.length ≤ k ∧ PF w1 d p O (B.map Bk.fz) [] m wr ∧ BkL w1 wr O lv B) (fun _ iv _ _ _ _ _ _ _ _ => l.length - (intOf iv).toNat)
    case atStart => exact ⟨0, 0, [], O3, Nat.zero_le _, rfl, Nat.le_refl _, Nat.le_refl _, H3.out, BkL.nil _ _ _⟩
    case round =>
      obtain ⟨k, m, B, O, hk, rfl, hmk, hBk, hpf, hbl0⟩ := hrel
      obtain ⟨Al, cl, rfl⟩ := hbl0.form
      by_cases hlt : k < l.length
      · have hgr := gr_none G1.out hpf.gr
        obtain ⟨g, off, hA, hcap, hmx, hcells⟩ := (HRT.out.ext hgr).at_
        obtain rfl := hA (by omega)
        have hok := HRT.out.2 l[k] (List.getElem_mem hlt)
        have hbl := opQW_small (Nat.le_trans (opQW_le l[k] (List.getElem_mem hlt)) HSUM.out)
        obtain ⟨⟨kd, nm, i, bv, b⟩, hx⟩ : ∃ o, o = l[k] := ⟨_, rfl⟩
        have hc := hcells k hlt
        rw [← hx] at hok hbl hc
        obtain ⟨Ab, cb, rfl⟩ : ∃ Ab cb, bv = .slice Ab b.length cb := hok.b.form
        have c0 : wr.cell? ⟨g, off + k * 4, none⟩ = some (.int .i64 kd) := hc 0 (by omega)
        have c1 : wr.cell? ⟨g, off + k * 4 + 1, none⟩ = some (.string ⟨nm.toArray⟩) := hc 1 (by omega)
        have c2 : wr.cell? ⟨g, off + k * 4 + 2, none⟩ = some (.int .i64 i) := hc 2 (by omega)
        have c3 : wr.cell? ⟨g, off + k * 4 + 3, none⟩ = some (.slice Ab b.length cb) := hc 3 (by omega)
        obtain ⟨wa, hwa⟩ : ∃ wa, wa = wr.alloc (.cells #[.int .i64 kd, .string ⟨nm.toArray⟩, .int .i64 i, .slice Ab b.length cb] 35) := ⟨_, rfl⟩
        have hga : wr.grownBy wa none := by rw [hwa]; exact gr_alloc _ _ none
        have hblk : Blk wa wr.heap.size 35 #[.int .i64 kd, .string ⟨nm.toArray⟩, .int .i64 i, .slice Ab b.length cb] := by rw [hwa]; exact Blk.new wr _ _
        have HSM : Hid (sumF (B.map Bk.fz) ≤ m) := hpf.sum
        have HPL := Lib.hid (plain_any kd ⟨nm.toArray⟩ i (.slice Ab b.length cb) wa)
        have HPF : Hid (PF w1 d p O (B.map Bk.fz) [] m wa) := hpf.ext hga
        have HB : Hid (BkL w1 wa O (.slice Al B.length cl) B) := hbl0.ext hga
        have HZ : Hid (O wr.heap.size = none) := hpf.fresh (Nat.le_refl _)
        have HBLK := Lib.hid hblk
        have hbl2 : b.length ≤ 65536 ∧ nm.length ≤ 65536 := hbl
        have HBL := Lib.hid hbl2
        have HOB : Hid (RdB w (.slice Ab b.length cb) b) := hok.b
        have HOK : Hid (-9223372036854775808 ≤ i ∧ i ≤ 9223372036854775807) := hok.k
        have HWA := Lib.hid hwa
        have hcell := hblk.cell
        rw [hwa] at hcell
        obtain ⟨ob, hob⟩ : ∃ ob, ob = wr.heap.size := ⟨_, rfl⟩
        have HOBS := Lib.hid hob
        clear hok hbl hbl2 hx hcells hgr hpf hbl0 hc hwa hga hblk
        go_wp2_with fail
        rw [← HWA.out]
        refine HPL.out.mono ?_
        rintro e w4 ⟨rfl, g4⟩
        have hp4 := HPF.out.ext g4
        have hb4 := HB.out.ext g4
        have hk4 := HBLK.out.ext g4
        cases hpl : isPlain kd with
        | false =>
          have H4 := Lib.hid hp4
          have HB4 := Lib.hid hb4
          clear hp4 hb4 hk4 g4 HPF HB HBLK c0 c1 c2 c3 hcell HPL HWA HZ
          go_wp2_with fail
          go_roundw
          case rel => exact ⟨k + 1, m, B, O, by omega, by go_num, by omega, by omega, H4.out, HB4.out⟩
          case measure => simp [intOf] <;> omega
        | true =>
          have hd := fun wx (gx : w4.grownBy wx none) => pf_does (hp4.ext gx) (by omega) hpl (n := nm) (by have := HBL.out; omega) HOK.out (HOB.out.ext (gr_none G1.out (hp4.ext gx).gr)) (by have := HBL.out; omega)
          have HD := Lib.hid (hd w4 (gr_refl _ _))
          have HWF : Hid (Wf (B.map Bk.fz)) := hp4.wf
          have hcell4 := hk4.cell
          have HB4 := Lib.hid hb4
          have HK4 := Lib.hid hk4
          clear hp4 hb4 hk4 g4 HPF HB HBLK c0 c1 c2 c3 hcell HPL HWA hd
          go_wp2_with fail
          refine HD.out.mono ?_
          rintro e w5 ⟨A5, c5, rfl, o5, O5, h5, ch5, b5⟩
          obtain ⟨⟨F8, bs, n8, er⟩, hst⟩ : ∃ x, x = stepF (B.map Bk.fz) kd nm i b := ⟨_, rfl⟩
          rw [← hst] at h5 o5 ⊢
          have hk5 := ch5.blk HK4.out HZ.out
          obtain ⟨wb, hwb⟩ : ∃ wb, wb = w5.alloc (.cells #[.slice A5 bs.length c5, .int .i64 n8, .int .i64 er] 38) := ⟨_, rfl⟩
          have hgb : w5.grownBy wb none := by rw [hwb]; exact gr_alloc _ _ none
          have HK5 : Hid (Blk wb wr.heap.size 35 #[.int .i64 kd, .string ⟨nm.toArray⟩, .int .i64 i, .slice Ab b.length cb]) := hk5.ext hgb
          have HT5 : Hid (Blk wb w5.heap.size 38 #[.slice A5 bs.length c5, .int .i64 n8, .int .i64 er]) := by rw [hwb]; exact Blk.new w5 _ _
          have HP5 : Hid (PF w1 d p O5 F8 [] (m + 1) wb) := h5.ext hgb
          have HB5 : Hid (BkL w1 wb O5 (.slice Al B.length cl) B) := (HB4.out.ch ch5).ext hgb
          have HO5 : Hid (RdB wb (.slice A5 bs.length c5) bs) := o5.rd.ext hgb
          have HFD := Lib.hid (find_any B nm wb (OwnG.rd HB5.out.own) (by omega))
          have HST := Lib.hid hst
          have HWB := Lib.hid hwb
          have hcell5 := HK5.out.cell
          rw [hwb] at hcell5
          clear h5 o5 ch5 b5 hk5 hgb hst HD HB4 HK4 hcell4 hwb
          go_wp2_with fail
          rw [← HWB.out]
          refine HFD.out.mono ?_
          rintro e w6 ⟨⟨z, rfl, hz⟩, g6⟩
          have hk6 := HK5.out.ext g6
          have ht6 := HT5.out.ext g6
          have hcell6 := hk6.cell
          have hcell7 := ht6.cell
          have HK6 := Lib.hid hk6
          have HT6 := Lib.hid ht6
          have HP6 : Hid (PF w1 d p O5 F8 [] (m + 1) w6) := HP5.out.ext g6
          have HB6 : Hid (BkL w1 w6 O5 (.slice Al B.length cl) B) := HB5.out.ext g6
          have HO6 : Hid (RdB w6 (.slice A5 bs.length c5) bs) := HO5.out.ext g6
          have HIX := Lib.hid hz
          clear hk6 ht6 g6 hz HK5 HT5 HP5 HB5 HO5 HFD HWB hcell5
          have hkd' : kd = 0 ∨ kd = 1 ∨ kd = 2 ∨ kd = 5 ∨ kd = 6 ∨ kd = 7 := by
            unfold isPlain at hpl
            simp at hpl
            omega
          clear hpl
          rcases hkd' with rfl | rfl | rfl | rfl | rfl | rfl
          · obtain ⟨e1, -, -, e2⟩ := stepF_eq HST.out
            have e1' : F8 = (aCreate (B.map Bk.fz) nm).1 := e1
            have e2' : er = (aCreate (B.map Bk.fz) nm).2 := e2
            rcases create_cases HWF.out HIX.out with ⟨ez, ec⟩ | ⟨j, ez, ec⟩ | ⟨ez, ec⟩
            · as_aux_lemma =>
                rw [ec] at e1' e2'
                obtain rfl : er = 1 := e2'
                subst ez
                have HPX : Hid (PF w1 d p O5 (B.map Bk.fz) [] (m + 1) w6) := by have := HP6.out; rw [e1'] at this; exact this
                clear e1 e2 e1' ec HIX HST HP6
                go_wp2_with fail
                go_roundw
                case rel => exact ⟨k + 1, m + 1, B, O5, by omega, by go_num, by omega, by omega, HPX.out, HB6.out⟩
                case measure => simp [intOf] <;> omega
            · as_aux_lemma =>
                rw [ec] at e1' e2'
                obtain rfl : er = 4 := e2'
                subst ez
                have HPX : Hid (PF w1 d p O5 (B.map Bk.fz) [] (m + 1) w6) := by have := HP6.out; rw [e1'] at this; exact this
                have hj0 : ¬ (j : Int) < 0 := by omega
                clear e1 e2 e1' ec HIX HST HP6
                go_wp2_with fail
                go_roundw
                case rel => exact ⟨k + 1, m + 1, B, O5, by omega, by go_num, by omega, by omega, HPX.out, HB6.out⟩
                case measure => simp [intOf] <;> omega
            · as_aux_lemma =>
                rw [ec] at e1' e2'
                obtain rfl : er = 0 := e2'
                subst ez
                have HPX : Hid (PF w1 d p O5 (B.map Bk.fz ++ [⟨nm, []⟩]) [] (m + 1) w6) := by have := HP6.out; rw [e1'] at this; exact this
                clear e1 e2 e1' ec HIX HST HP6
                go_wp2_with (at_builtin; refine wp_app1K nm rfl (.tmp 87) (.tmp 91) rfl rfl HB6.out _ rfl rfl (by omega) HPX.out.gr.size (fun i hi => HPX.out.fresh hi) ?_; rintro v7 w7 hb7 he7)
                obtain ⟨A7, c7, rfl⟩ := hb7.form
                have HB7 := Lib.hid hb7
                have HP7 : Hid (PF w1 d p O5 ((B ++ [(⟨nm, .slice none 0 0, []⟩ : Bk)]).map Bk.fz) [] (m + 1) w7) := by
                  have := (HPX.out.ext (gr_alloc _ _ none)).farE (HB6.out.ext (gr_alloc _ _ none)) he7
                  rw [List.map_append]
                  exact this
                clear hb7 he7 HPX HB6
                go_wp2_with fail
                go_roundw
                case rel => exact ⟨k + 1, m + 1, _, O5, by omega, by go_num, by omega, by rw [List.length_append]; simp; omega, HP7.out, HB7.out⟩
                case measure => simp [intOf] <;> omega
          · obtain ⟨e1, -, -, e2⟩ := stepF_eq HST.out
            have e1' : F8 = (aDrop (B.map Bk.fz) nm).1 := e1
            have e2' : er = (aDrop (B.map Bk.fz) nm).2 := e2
            rcases drop_cases HWF.out HIX.out with ⟨j, ez, hj, ec⟩ | ⟨ez, E, hE, ec⟩
            · as_aux_lemma =>
                rw [ec] at e1' e2'
                obtain rfl : er = 0 := e2'
                subst ez
                obtain ⟨B', hB'⟩ : ∃ B', B.take j ++ B.drop (j + 1) = B' := ⟨_, rfl⟩
                rw [hB'] at e1'
                have HPX : Hid (PF w1 d p O5 (B'.map Bk.fz) [] (m + 1) w6) := by have := HP6.out; rw [e1'] at this; exact this
                have hj0 : (0 : Int) ≤ (j : Int) := by omega
                have hjc : (j : Int) ≤ (cl : Int) := by have := Own.cap HB6.out.own; omega
                have hl1 : j + 1 ≤ B.length := by omega
                have hjl : (j : Int) + 1 ≤ (B.length : Int) := by omega
                have hBl : B'.length ≤ k := by rw [← hB', List.length_append, List.length_take, List.length_drop]; omega
                have HBE := Lib.hid hB'
                clear e1 e2 e1' ec HIX HST HP6 hB'
                go_wp2_with (first
                  | (at_builtin; refine wp_takeK (j := j) (by omega) HB6.out rfl (.tmp 103) (.tmp 106) rfl _ rfl rfl rfl HPX.out.gr.size (by omega) ?_; rintro A7 c7 w7 ho7 g7 hv7)
                  | (at_builtin; refine wp_joinK (j := j) (by omega) HB6.out HBE.out (fun i hi => HPX.out.fresh hi) HPX.out.gr.size (by omega) ho7 g7 hv7 rfl (.tmp 108) (.tmp 112) rfl rfl rfl ?_; rintro A8 c8 w8 hb8 g8; have HB8 := Lib.hid hb8; have HP8 := Lib.hid (HPX.out.ext g8); clear hb8 g8 ho7 g7 hv7))
                go_roundw
                case rel => exact ⟨k + 1, m + 1, B', O5, by omega, by go_num, by omega, by omega, HP8.out, HB8.out⟩
                case measure => simp [intOf] <;> omega
            · as_aux_lemma =>
                rw [ec] at e1' e2'
                subst ez
                have HPX : Hid (PF w1 d p O5 (B.map Bk.fz) [] (m + 1) w6) := by have := HP6.out; rw [e1'] at this; exact this
                have e2n : er = E := e2'
                have her : ((er : Int) == 0) = false := by rw [e2n, beq_eq_false_iff_ne]; omega
                clear e1 e2 e1' e2' e2n ec HIX HST HP6
                go_wp2_with fail
                go_roundw
                case rel => exact ⟨k + 1, m + 1, B, O5, by omega, by go_num, by omega, by omega, HPX.out, HB6.out⟩
                case measure => simp [intOf] <;> omega
          · obtain ⟨e1, -, e3, e2⟩ := stepF_eq HST.out
            have e1' : F8 = B.map Bk.fz := e1
            have e2' : er = aErr (B.map Bk.fz) nm := e2
            have e3' : n8 = ((aPg (B.map Bk.fz) nm).length : Int) := e3
            have HPX : Hid (PF w1 d p O5 (B.map Bk.fz) [] (m + 1) w6) := by have := HP6.out; rw [e1'] at this; exact this
            have t1 : w6.cell? ⟨w5.heap.size, 1, none⟩ = some (.int .i64 n8) := hcell7 1
            have t2 : w6.cell? ⟨w5.heap.size, 2, none⟩ = some (.int .i64 er) := hcell7 2
            rcases pages_cases HWF.out HIX.out with ⟨j, ez, hj, h0, hlen⟩ | ez
            · as_aux_lemma =>
                rw [h0] at e2'
                rw [hlen] at e3'
                obtain ⟨gl, offl, hAl, hcapl, hcelll⟩ := RdG.at_ bk2 (OwnG.rd HB6.out.own)
                obtain rfl := hAl (by omega)
                have q1 := hcelll j hj 1 (by omega)
                have hpr := (HB6.out.ok B[j] (List.getElem_mem hj)).rd
                obtain ⟨⟨pn, ps, pL⟩, hx⟩ : ∃ x, x = B[j] := ⟨_, rfl⟩
                rw [← hx] at q1 hpr e3'
                obtain ⟨Ap, cp, rfl⟩ : ∃ Ap cp, ps = .slice Ap pL.length cp := by obtain ⟨_, A, c, _, _, e, _⟩ := hpr; exact ⟨A, c, e⟩
                have l1 : w6.cell? ⟨gl, offl + j * 2 + 1, none⟩ = some (.slice Ap pL.length cp) := q1
                obtain rfl : er = 0 := e2'
                subst ez
                have e4 : n8 = (pL.length : Int) := e3'
                rw [e4] at t1
                have hj0 : (0 : Int) ≤ (j : Int) := by omega
                have hjl : (j : Int) < (B.length : Int) := by omega
                clear e1 e2 e3 e1' e3' e4 h0 hlen hcelll q1 hpr hx HIX HST HP6
                go_wp2_with fail
                go_region_held3 (fun w' => w'.cell? ⟨w5.heap.size, 1, none⟩ = some (.int .i64 (pL.length : Int)) ∧ w'.cell? ⟨w5.heap.size, 2, none⟩ = some (.int .i64 ((0 : Nat) : Int)) ∧ w'.cell? ⟨gl, offl + j * 2 + 1, none⟩ = some (.slice Ap pL.length cp)) (go_keep) (fail)
                go_wp2
                go_roundw
                case rel => exact ⟨k + 1, m + 1, B, O5, by omega, by go_num, by omega, by omega, HPX.out.ext (gr_drew _ _), HB6.out.ext (gr_drew _ _)⟩
                case measure => simp [intOf] <;> omega
            · as_aux_lemma =>
                have hz0 : ¬ (0 : Int) ≤ z := by omega
                have hz1 : decide ((0 : Int) ≤ z) = false := by simpa using hz0
                clear ez e1 e2 e3 e1' e2' e3' HIX HST HP6
                go_wp2_with fail
                refine wp_region_held_drew (S := fun _ => True) (by kernel_rfl) ?_ (fun hHeld => ?_)
                · trivial
                first
                  | (refine wpAnyH_take (i := 0) (oi := _) (v := ?vop1) (by simp only [List.getElem?_toArray, List.getElem?_cons_zero]; rfl) (by kernel_rfl) (by kernel_rfl) (by kernel_rfl) (by exact fun _ _ _ h => h) (Or.inl ⟨by rfl, ?hyop1⟩) (by assumption) ?restop1
                     case hyop1 => (intro w hSw; (try dsimp only at hSw); go_simp; try (with_reducible rfl)))
                  | refine wpAnyH_take (i := 0) (oi := _) (v := undef) (by simp only [List.getElem?_toArray, List.getElem?_cons_zero]; rfl) (by kernel_rfl) (by kernel_rfl) (by kernel_rfl) (by exact fun _ _ _ h => h) (Or.inr ⟨by rfl, rfl⟩) (by assumption) ?_
                try simp only [Act.put, List.setIfInBounds_toArray, List.set_cons_zero, List.set_cons_succ]
                first
                  | (refine wpAnyH_take (i := 1) (oi := _) (v := ?vop2) (by simp only [List.getElem?_toArray, List.getElem?_cons_succ, List.getElem?_cons_zero]; rfl) (by kernel_rfl) (by kernel_rfl) (by kernel_rfl) (by exact fun _ _ _ h => h) (Or.inl ⟨by rfl, ?hyop2⟩) (by assumption) ?restop2
                     case hyop2 => (intro w hSw; (try dsimp only at hSw); go_simp; try (with_reducible rfl)))
                  | refine wpAnyH_take (i := 1) (oi := _) (v := undef) (by simp only [List.getElem?_toArray, List.getElem?_cons_succ, List.getElem?_cons_zero]; rfl) (by kernel_rfl) (by kernel_rfl) (by kernel_rfl) (by exact fun _ _ _ h => h) (Or.inr ⟨by rfl, rfl⟩) (by assumption) ?_
                try simp only [Act.put, List.setIfInBounds_toArray, List.set_cons_zero, List.set_cons_succ]
                first
                  | (refine wpAnyH_take (i := 2) (oi := _) (v := ?vop3) (by simp only [List.getElem?_toArray, List.getElem?_cons_succ, List.getElem?_cons_zero]; rfl) (by kernel_rfl) (by kernel_rfl) (by kernel_rfl) (by exact fun _ _ _ h => h) (Or.inl ⟨by rfl, ?hyop3⟩) (by assumption) ?restop3
                     case hyop3 => (intro w hSw; (try dsimp only at hSw); go_simp; try (with_reducible rfl)))
                  | refine wpAnyH_take (i := 2) (oi := _) (v := undef) (by simp only [List.getElem?_toArray, List.getElem?_cons_succ, List.getElem?_cons_zero]; rfl) (by kernel_rfl) (by kernel_rfl) (by kernel_rfl) (by exact fun _ _ _ h => h) (Or.inr ⟨by rfl, rfl⟩) (by assumption) ?_
                try simp only [Act.put, List.setIfInBounds_toArray, List.set_cons_zero, List.set_cons_succ]
                try rw [hz1]
                refine wpAnyH_take (i := 3) (oi := _) (v := undef) (by simp only [List.getElem?_toArray, List.getElem?_cons_succ, List.getElem?_cons_zero]; rfl) (by kernel_rfl) (by kernel_rfl) (by kernel_rfl) (by exact fun _ _ _ h => h) (Or.inr ⟨by rfl, rfl⟩) (by assumption) ?_
                try simp only [Act.put, List.setIfInBounds_toArray, List.set_cons_zero, List.set_cons_succ]
                refine wpAnyH_take (i := 4) (oi := _) (v := undef) (by simp only [List.getElem?_toArray, List.getElem?_cons_succ, List.getElem?_cons_zero]; rfl) (by kernel_rfl) (by kernel_rfl) (by kernel_rfl) (by exact fun _ _ _ h => h) (Or.inr ⟨by rfl, rfl⟩) (by assumption) ?_
                try simp only [Act.put, List.setIfInBounds_toArray, List.set_cons_zero, List.set_cons_succ]
                refine wpAnyH_take (i := 5) (oi := _) (v := undef) (by simp only [List.getElem?_toArray, List.getElem?_cons_succ, List.getElem?_cons_zero]; rfl) (by kernel_rfl) (by kernel_rfl) (by kernel_rfl) (by exact fun _ _ _ h => h) (Or.inr ⟨by rfl, rfl⟩) (by assumption) ?_
                try simp only [Act.put, List.setIfInBounds_toArray, List.set_cons_zero, List.set_cons_succ]
                refine wpAnyH_take (i := 6) (oi := _) (v := undef) (by simp only [List.getElem?_toArray, List.getElem?_cons_succ, List.getElem?_cons_zero]; rfl) (by kernel_rfl) (by kernel_rfl) (by kernel_rfl) (by exact fun _ _ _ h => h) (Or.inr ⟨by rfl, rfl⟩) (by assumption) ?_
                try simp only [Act.put, List.setIfInBounds_toArray, List.set_cons_zero, List.set_cons_succ]
                refine wpAnyH_take (i := 7) (oi := _) (v := undef) (by simp only [List.getElem?_toArray, List.getElem?_cons_succ, List.getElem?_cons_zero]; rfl) (by kernel_rfl) (by kernel_rfl) (by kernel_rfl) (by exact fun _ _ _ h => h) (Or.inr ⟨by rfl, rfl⟩) (by assumption) ?_
                try simp only [Act.put, List.setIfInBounds_toArray, List.set_cons_zero, List.set_cons_succ]
                refine wpAnyH_take (i := 8) (oi := _) (v := undef) (by simp only [List.getElem?_toArray, List.getElem?_cons_succ, List.getElem?_cons_zero]; rfl) (by kernel_rfl) (by kernel_rfl) (by kernel_rfl) (by exact fun _ _ _ h => h) (Or.inr ⟨by rfl, rfl⟩) (by assumption) ?_
                try simp only [Act.put, List.setIfInBounds_toArray, List.set_cons_zero, List.set_cons_succ]
                refine wpAnyH_take (i := 9) (oi := _) (v := undef) (by simp only [List.getElem?_toArray, List.getElem?_cons_succ, List.getElem?_cons_zero]; rfl) (by kernel_rfl) (by kernel_rfl) (by kernel_rfl) (by exact fun _ _ _ h => h) (Or.inr ⟨by rfl, rfl⟩) (by assumption) ?_
                try simp only [Act.put, List.setIfInBounds_toArray, List.set_cons_zero, List.set_cons_succ]
                refine wpAnyH_take (i := 10) (oi := _) (v := undef) (by simp only [List.getElem?_toArray, List.getElem?_cons_succ, List.getElem?_cons_zero]; rfl) (by kernel_rfl) (by kernel_rfl) (by kernel_rfl) (by exact fun _ _ _ h => h) (Or.inr ⟨by rfl, rfl⟩) (by assumption) ?_
                try simp only [Act.put, List.setIfInBounds_toArray, List.set_cons_zero, List.set_cons_succ]
                refine wpAnyH_take (i := 11) (oi := _) (v := undef) (by simp only [List.getElem?_toArray, List.getElem?_cons_succ, List.getElem?_cons_zero]; rfl) (by kernel_rfl) (by kernel_rfl) (by kernel_rfl) (by exact fun _ _ _ h => h) (Or.inr ⟨by rfl, rfl⟩) (by assumption) ?_
                try simp only [Act.put, List.setIfInBounds_toArray, List.set_cons_zero, List.set_cons_succ]
                refine wpAnyH_take (i := 12) (oi := _) (v := undef) (by simp only [List.getElem?_toArray, List.getElem?_cons_succ, List.getElem?_cons_zero]; rfl) (by kernel_rfl) (by kernel_rfl) (by kernel_rfl) (by exact fun _ _ _ h => h) (Or.inr ⟨by rfl, rfl⟩) (by assumption) ?_
                try simp only [Act.put, List.setIfInBounds_toArray, List.set_cons_zero, List.set_cons_succ]
                refine wpAnyH_take (i := 13) (oi := _) (v := undef) (by simp only [List.getElem?_toArray, List.getElem?_cons_succ, List.getElem?_cons_zero]; rfl) (by kernel_rfl) (by kernel_rfl) (by kernel_rfl) (by exact fun _ _ _ h => h) (Or.inr ⟨by rfl, rfl⟩) (by assumption) ?_
                try simp only [Act.put, List.setIfInBounds_toArray, List.set_cons_zero, List.set_cons_succ]
                refine wpAnyH_take (i := 14) (oi := _) (v := undef) (by simp only [List.getElem?_toArray, List.getElem?_cons_succ, List.getElem?_cons_zero]; rfl) (by kernel_rfl) (by kernel_rfl) (by kernel_rfl) (by exact fun _ _ _ h => h) (Or.inr ⟨by rfl, rfl⟩) (by assumption) ?_
                try simp only [Act.put, List.setIfInBounds_toArray, List.set_cons_zero, List.set_cons_succ]
                refine wpAnyH_take (i := 15) (oi := _) (v := undef) (by simp only [List.getElem?_toArray, List.getElem?_cons_succ, List.getElem?_cons_zero]; rfl) (by kernel_rfl) (by kernel_rfl) (by kernel_rfl) (by exact fun _ _ _ h => h) (Or.inr ⟨by rfl, rfl⟩) (by assumption) ?_
                try simp only [Act.put, List.setIfInBounds_toArray, List.set_cons_zero, List.set_cons_succ]
                refine wpAnyH_take (i := 16) (oi := _) (v := undef) (by simp only [List.getElem?_toArray, List.getElem?_cons_succ, List.getElem?_cons_zero]; rfl) (by kernel_rfl) (by kernel_rfl) (by kernel_rfl) (by exact fun _ _ _ h => h) (Or.inr ⟨by rfl, rfl⟩) (by assumption) ?_
                try simp only [Act.put, List.setIfInBounds_toArray, List.set_cons_zero, List.set_cons_succ]
                first
                  | (refine wpAnyH_take (i := 17) (oi := _) (v := ?vop4) (by simp only [List.getElem?_toArray, List.getElem?_cons_succ, List.getElem?_cons_zero]; rfl) (by kernel_rfl) (by kernel_rfl) (by kernel_rfl) (by exact fun _ _ _ h => h) (Or.inl ⟨by rfl, ?hyop4⟩) (by assumption) ?restop4
                     case hyop4 => (intro w hSw; (try dsimp only at hSw); go_simp; try (with_reducible rfl)))
                  | refine wpAnyH_take (i := 17) (oi := _) (v := undef) (by simp only [List.getElem?_toArray, List.getElem?_cons_succ, List.getElem?_cons_zero]; rfl) (by kernel_rfl) (by kernel_rfl) (by kernel_rfl) (by exact fun _ _ _ h => h) (Or.inr ⟨by rfl, rfl⟩) (by assumption) ?_
                try simp only [Act.put, List.setIfInBounds_toArray, List.set_cons_zero, List.set_cons_succ]
                refine wpAnyH_done (by kernel_rfl) ?_ _
                go_wp2
                go_roundw
                case rel => exact ⟨k + 1, m + 1, B, O5, by omega, by go_num, by omega, by omega, HPX.out.ext (gr_drew _ _), HB6.out.ext (gr_drew _ _)⟩
                case measure => simp [intOf] <;> omega
          · obtain ⟨e1, e3, -, e2⟩ := stepF_eq HST.out
            have e1' : F8 = B.map Bk.fz := e1
            have e2' : er = (aRead (B.map Bk.fz) nm i).2 := e2
            have t2 : w6.cell? ⟨w5.heap.size, 2, none⟩ = some (.int .i64 (er : Int)) := hcell7 2
            have o2 : w6.cell? ⟨wr.heap.size, 2, none⟩ = some (.int .i64 i) := hcell6 2
            have hi64 := HOK.out
            have e3' : bs = (aRead (B.map Bk.fz) nm i).1 := e3
            have HPX : Hid (PF w1 d p O5 (B.map Bk.fz) [] (m + 1) w6) := by have := HP6.out; rw [e1'] at this; exact this
            have t0 : w6.cell? ⟨w5.heap.size, 0, none⟩ = some (.slice A5 bs.length c5) := hcell7 0
            rcases read_cases HWF.out HIX.out i with ⟨j, ez, hj, hcs⟩ | ⟨ez, E, hE, ec⟩
            · obtain ⟨gl, offl, hAl, hcapl, hcelll⟩ := RdG.at_ bk2 (OwnG.rd HB6.out.own)
              obtain rfl := hAl (by omega)
              have q1 := hcelll j hj 1 (by omega)
              have hbk := HB6.out.ok B[j] (List.getElem_mem hj)
              obtain ⟨⟨pn, ps, pL⟩, hx⟩ : ∃ x, x = B[j] := ⟨_, rfl⟩
              rw [← hx] at q1 hbk hcs
              dsimp only at hcs
              obtain ⟨Ap, cp, rfl⟩ : ∃ Ap cp, ps = .slice Ap pL.length cp := by obtain ⟨_, A, c, _, _, e, _⟩ := hbk.rd; exact ⟨A, c, e⟩
              have l1 : w6.cell? ⟨gl, offl + j * 2 + 1, none⟩ = some (.slice Ap pL.length cp) := q1
              have hpr0 : Rd w6 1 (.slice Ap pL.length cp) pL.length (pL.map Prod.fst) := hbk.rd
              have hpg0 : ∀ y ∈ pL, RdB w1 y.1 y.2 := hbk.pg
              subst ez
              have hj0 : (0 : Int) ≤ (j : Int) := by omega
              have hjl : (j : Int) < (B.length : Int) := by omega
              rcases hcs with ⟨E, hE, hi, ec⟩ | ⟨K, ek, hK, ec⟩
              · rw [ec] at e2'
                have e2n : er = E := e2'
                have her : ((er : Int) == 0) = false := by rw [e2n, beq_eq_false_iff_ne]; omega
                by_cases hi0 : (0 : Int) ≤ i
                · as_aux_lemma =>
                    have hi2 : ¬ i < (pL.length : Int) := by omega
                    have hi3 : decide (i < (pL.length : Int)) = false := by simpa using hi2
                    clear hi e1 e2 e3 e1' e2' e3' e2n ec hE hpr0 hbk hpg0 q1 hx hcelll HIX HST HP6
                    go_wp2_with fail
                    go_region_held3 (fun w' => w'.cell? ⟨wr.heap.size, 2, none⟩ = some (.int .i64 i) ∧ w'.cell? ⟨gl, offl + j * 2 + 1, none⟩ = some (.slice Ap pL.length cp)) (go_keep) (fail)
                    go_wp2_with fail
                    refine wp_region_held_drew (S := fun w' => w'.cell? ⟨w5.heap.size, 2, none⟩ = some (.int .i64 (er : Int))) (by kernel_rfl) ?_ (fun hHeld => ?_)
                    · ((try dsimp only); exact t2)
                    first
                      | (refine wpAnyH_take (i := 0) (oi := _) (v := ?vop5) (by simp only [List.getElem?_toArray, List.getElem?_cons_zero]; rfl) (by kernel_rfl) (by kernel_rfl) (by kernel_rfl) (by exact fun _ _ _ h => h) (Or.inl ⟨by rfl, ?hyop5⟩) (by assumption) ?restop5
                         case hyop5 => (intro w hSw; (try dsimp only at hSw); go_simp; try (with_reducible rfl)))
                      | refine wpAnyH_take (i := 0) (oi := _) (v := undef) (by simp only [List.getElem?_toArray, List.getElem?_cons_zero]; rfl) (by kernel_rfl) (by kernel_rfl) (by kernel_rfl) (by exact fun _ _ _ h => h) (Or.inr ⟨by rfl, rfl⟩) (by assumption) ?_
                    try simp only [Act.put, List.setIfInBounds_toArray, List.set_cons_zero, List.set_cons_succ]
                    first
                      | (refine wpAnyH_take (i := 1) (oi := _) (v := ?vop6) (by simp only [List.getElem?_toArray, List.getElem?_cons_succ, List.getElem?_cons_zero]; rfl) (by kernel_rfl) (by kernel_rfl) (by kernel_rfl) (by exact fun _ _ _ h => h) (Or.inl ⟨by rfl, ?hyop6⟩) (by assumption) ?restop6
                         case hyop6 => (intro w hSw; (try dsimp only at hSw); go_simp; try (with_reducible rfl)))
                      | refine wpAnyH_take (i := 1) (oi := _) (v := undef) (by simp only [List.getElem?_toArray, List.getElem?_cons_succ, List.getElem?_cons_zero]; rfl) (by kernel_rfl) (by kernel_rfl) (by kernel_rfl) (by exact fun _ _ _ h => h) (Or.inr ⟨by rfl, rfl⟩) (by assumption) ?_
                    try simp only [Act.put, List.setIfInBounds_toArray, List.set_cons_zero, List.set_cons_succ]
                    first
                      | (refine wpAnyH_take (i := 2) (oi := _) (v := ?vop7) (by simp only [List.getElem?_toArray, List.getElem?_cons_succ, List.getElem?_cons_zero]; rfl) (by kernel_rfl) (by kernel_rfl) (by kernel_rfl) (by exact fun _ _ _ h => h) (Or.inl ⟨by rfl, ?hyop7⟩) (by assumption) ?restop7
                         case hyop7 => (intro w hSw; (try dsimp only at hSw); go_simp; try (with_reducible rfl)))
                      | refine wpAnyH_take (i := 2) (oi := _) (v := undef) (by simp only [List.getElem?_toArray, List.getElem?_cons_succ, List.getElem?_cons_zero]; rfl) (by kernel_rfl) (by kernel_rfl) (by kernel_rfl) (by exact fun _ _ _ h => h) (Or.inr ⟨by rfl, rfl⟩) (by assumption) ?_
                    try simp only [Act.put, List.setIfInBounds_toArray, List.set_cons_zero, List.set_cons_succ]
                    first
                      | (refine wpAnyH_take (i := 3) (oi := _) (v := ?vop8) (by simp only [List.getElem?_toArray, List.getElem?_cons_succ, List.getElem?_cons_zero]; rfl) (by kernel_rfl) (by kernel_rfl) (by kernel_rfl) (by exact fun _ _ _ h => h) (Or.inl ⟨by rfl, ?hyop8⟩) (by assumption) ?restop8
                         case hyop8 => (intro w hSw; (try dsimp only at hSw); go_simp; try (with_reducible rfl)))
                      | refine wpAnyH_take (i := 3) (oi := _) (v := undef) (by simp only [List.getElem?_toArray, List.getElem?_cons_succ, List.getElem?_cons_zero]; rfl) (by kernel_rfl) (by kernel_rfl) (by kernel_rfl) (by exact fun _ _ _ h => h) (Or.inr ⟨by rfl, rfl⟩) (by assumption) ?_
                    try simp only [Act.put, List.setIfInBounds_toArray, List.set_cons_zero, List.set_cons_succ]
                    first
                      | (refine wpAnyH_take (i := 4) (oi := _) (v := ?vop9) (by simp only [List.getElem?_toArray, List.getElem?_cons_succ, List.getElem?_cons_zero]; rfl) (by kernel_rfl) (by kernel_rfl) (by kernel_rfl) (by exact fun _ _ _ h => h) (Or.inl ⟨by rfl, ?hyop9⟩) (by assumption) ?restop9
                         case hyop9 => (intro w hSw; (try dsimp only at hSw); go_simp; try (with_reducible rfl)))
                      | refine wpAnyH_take (i := 4) (oi := _) (v := undef) (by simp only [List.getElem?_toArray, List.getElem?_cons_succ, List.getElem?_cons_zero]; rfl) (by kernel_rfl) (by kernel_rfl) (by kernel_rfl) (by exact fun _ _ _ h => h) (Or.inr ⟨by rfl, rfl⟩) (by assumption) ?_
                    try simp only [Act.put, List.setIfInBounds_toArray, List.set_cons_zero, List.set_cons_succ]
                    first
                      | (refine wpAnyH_take (i := 5) (oi := _) (v := ?vop10) (by simp only [List.getElem?_toArray, List.getElem?_cons_succ, List.getElem?_cons_zero]; rfl) (by kernel_rfl) (by kernel_rfl) (by kernel_rfl) (by exact fun _ _ _ h => h) (Or.inl ⟨by rfl, ?hyop10⟩) (by assumption) ?restop10
                         case hyop10 => (intro w hSw; (try dsimp only at hSw); go_simp; try (with_reducible rfl)))
                      | refine wpAnyH_take (i := 5) (oi := _) (v := undef) (by simp only [List.getElem?_toArray, List.getElem?_cons_succ, List.getElem?_cons_zero]; rfl) (by kernel_rfl) (by kernel_rfl) (by kernel_rfl) (by exact fun _ _ _ h => h) (Or.inr ⟨by rfl, rfl⟩) (by assumption) ?_
                    try simp only [Act.put, List.setIfInBounds_toArray, List.set_cons_zero, List.set_cons_succ]
                    first
                      | (refine wpAnyH_take (i := 6) (oi := _) (v := ?vop11) (by simp only [List.getElem?_toArray, List.getElem?_cons_succ, List.getElem?_cons_zero]; rfl) (by kernel_rfl) (by kernel_rfl) (by kernel_rfl) (by exact fun _ _ _ h => h) (Or.inl ⟨by rfl, ?hyop11⟩) (by assumption) ?restop11
                         case hyop11 => (intro w hSw; (try dsimp only at hSw); go_simp; try (with_reducible rfl)))
                      | refine wpAnyH_take (i := 6) (oi := _) (v := undef) (by simp only [List.getElem?_toArray, List.getElem?_cons_succ, List.getElem?_cons_zero]; rfl) (by kernel_rfl) (by kernel_rfl) (by kernel_rfl) (by exact fun _ _ _ h => h) (Or.inr ⟨by rfl, rfl⟩) (by assumption) ?_
                    try simp only [Act.put, List.setIfInBounds_toArray, List.set_cons_zero, List.set_cons_succ]
                    first
                      | (refine wpAnyH_take (i := 7) (oi := _) (v := ?vop12) (by simp only [List.getElem?_toArray, List.getElem?_cons_succ, List.getElem?_cons_zero]; rfl) (by kernel_rfl) (by kernel_rfl) (by kernel_rfl) (by exact fun _ _ _ h => h) (Or.inl ⟨by rfl, ?hyop12⟩) (by assumption) ?restop12
                         case hyop12 => (intro w hSw; (try dsimp only at hSw); go_simp; try (with_reducible rfl)))
                      | refine wpAnyH_take (i := 7) (oi := _) (v := undef) (by simp only [List.getElem?_toArray, List.getElem?_cons_succ, List.getElem?_cons_zero]; rfl) (by kernel_rfl) (by kernel_rfl) (by kernel_rfl) (by exact fun _ _ _ h => h) (Or.inr ⟨by rfl, rfl⟩) (by assumption) ?_
                    try simp only [Act.put, List.setIfInBounds_toArray, List.set_cons_zero, List.set_cons_succ]
                    refine wpAnyH_take (i := 8) (oi := _) (v := undef) (by simp only [List.getElem?_toArray, List.getElem?_cons_succ, List.getElem?_cons_zero]; rfl) (by kernel_rfl) (by kernel_rfl) (by kernel_rfl) (by exact fun _ _ _ h => h) (Or.inr ⟨by rfl, rfl⟩) (by assumption) ?_
                    try simp only [Act.put, List.setIfInBounds_toArray, List.set_cons_zero, List.set_cons_succ]
                    refine wpAnyH_take (i := 9) (oi := _) (v := undef) (by simp only [List.getElem?_toArray, List.getElem?_cons_succ, List.getElem?_cons_zero]; rfl) (by kernel_rfl) (by kernel_rfl) (by kernel_rfl) (by exact fun _ _ _ h => h) (Or.inr ⟨by rfl, rfl⟩) (by assumption) ?_
                    try simp only [Act.put, List.setIfInBounds_toArray, List.set_cons_zero, List.set_cons_succ]
                    refine wpAnyH_take (i := 10) (oi := _) (v := undef) (by simp only [List.getElem?_toArray, List.getElem?_cons_succ, List.getElem?_cons_zero]; rfl) (by kernel_rfl) (by kernel_rfl) (by kernel_rfl) (by exact fun _ _ _ h => h) (Or.inr ⟨by rfl, rfl⟩) (by assumption) ?_
                    try simp only [Act.put, List.setIfInBounds_toArray, List.set_cons_zero, List.set_cons_succ]
                    refine wpAnyH_take (i := 11) (oi := _) (v := undef) (by simp only [List.getElem?_toArray, List.getElem?_cons_succ, List.getElem?_cons_zero]; rfl) (by kernel_rfl) (by kernel_rfl) (by kernel_rfl) (by exact fun _ _ _ h => h) (Or.inr ⟨by rfl, rfl⟩) (by assumption) ?_
                    try simp only [Act.put, List.setIfInBounds_toArray, List.set_cons_zero, List.set_cons_succ]
                    refine wpAnyH_take (i := 12) (oi := _) (v := undef) (by simp only [List.getElem?_toArray, List.getElem?_cons_succ, List.getElem?_cons_zero]; rfl) (by kernel_rfl) (by kernel_rfl) (by kernel_rfl) (by exact fun _ _ _ h => h) (Or.inr ⟨by rfl, rfl⟩) (by assumption) ?_
                    try simp only [Act.put, List.setIfInBounds_toArray, List.set_cons_zero, List.set_cons_succ]
                    refine wpAnyH_take (i := 13) (oi := _) (v := undef) (by simp only [List.getElem?_toArray, List.getElem?_cons_succ, List.getElem?_cons_zero]; rfl) (by kernel_rfl) (by kernel_rfl) (by kernel_rfl) (by exact fun _ _ _ h => h) (Or.inr ⟨by rfl, rfl⟩) (by assumption) ?_
                    try simp only [Act.put, List.setIfInBounds_toArray, List.set_cons_zero, List.set_cons_succ]
                    refine wpAnyH_take (i := 14) (oi := _) (v := undef) (by simp only [List.getElem?_toArray, List.getElem?_cons_succ, List.getElem?_cons_zero]; rfl) (by kernel_rfl) (by kernel_rfl) (by kernel_rfl) (by exact fun _ _ _ h => h) (Or.inr ⟨by rfl, rfl⟩) (by assumption) ?_
                    try simp only [Act.put, List.setIfInBounds_toArray, List.set_cons_zero, List.set_cons_succ]
                    refine wpAnyH_take (i := 15) (oi := _) (v := undef) (by simp only [List.getElem?_toArray, List.getElem?_cons_succ, List.getElem?_cons_zero]; rfl) (by kernel_rfl) (by kernel_rfl) (by kernel_rfl) (by exact fun _ _ _ h => h) (Or.inr ⟨by rfl, rfl⟩) (by assumption) ?_
                    try simp only [Act.put, List.setIfInBounds_toArray, List.set_cons_zero, List.set_cons_succ]
                    refine wpAnyH_take (i := 16) (oi := _) (v := undef) (by simp only [List.getElem?_toArray, List.getElem?_cons_succ, List.getElem?_cons_zero]; rfl) (by kernel_rfl) (by kernel_rfl) (by kernel_rfl) (by exact fun _ _ _ h => h) (Or.inr ⟨by rfl, rfl⟩) (by assumption) ?_
                    try simp only [Act.put, List.setIfInBounds_toArray, List.set_cons_zero, List.set_cons_succ]
                    refine wpAnyH_take (i := 17) (oi := _) (v := undef) (by simp only [List.getElem?_toArray, List.getElem?_cons_succ, List.getElem?_cons_zero]; rfl) (by kernel_rfl) (by kernel_rfl) (by kernel_rfl) (by exact fun _ _ _ h => h) (Or.inr ⟨by rfl, rfl⟩) (by assumption) ?_
                    try simp only [Act.put, List.setIfInBounds_toArray, List.set_cons_zero, List.set_cons_succ]
                    refine wpAnyH_take (i := 18) (oi := _) (v := undef) (by simp only [List.getElem?_toArray, List.getElem?_cons_succ, List.getElem?_cons_zero]; rfl) (by kernel_rfl) (by kernel_rfl) (by kernel_rfl) (by exact fun _ _ _ h => h) (Or.inr ⟨by rfl, rfl⟩) (by assumption) ?_
                    try simp only [Act.put, List.setIfInBounds_toArray, List.set_cons_zero, List.set_cons_succ]
                    refine wpAnyH_take (i := 19) (oi := _) (v := undef) (by simp only [List.getElem?_toArray, List.getElem?_cons_succ, List.getElem?_cons_zero]; rfl) (by kernel_rfl) (by kernel_rfl) (by kernel_rfl) (by exact fun _ _ _ h => h) (Or.inr ⟨by rfl, rfl⟩) (by assumption) ?_
                    try simp only [Act.put, List.setIfInBounds_toArray, List.set_cons_zero, List.set_cons_succ]
                    refine wpAnyH_take (i := 20) (oi := _) (v := undef) (by simp only [List.getElem?_toArray, List.getElem?_cons_succ, List.getElem?_cons_zero]; rfl) (by kernel_rfl) (by kernel_rfl) (by kernel_rfl) (by exact fun _ _ _ h => h) (Or.inr ⟨by rfl, rfl⟩) (by assumption) ?_
                    try simp only [Act.put, List.setIfInBounds_toArray, List.set_cons_zero, List.set_cons_succ]
                    first
                      | (refine wpAnyH_take (i := 21) (oi := _) (v := ?vop13) (by simp only [List.getElem?_toArray, List.getElem?_cons_succ, List.getElem?_cons_zero]; rfl) (by kernel_rfl) (by kernel_rfl) (by kernel_rfl) (by exact fun _ _ _ h => h) (Or.inl ⟨by rfl, ?hyop13⟩) (by assumption) ?restop13
                         case hyop13 => (intro w hSw; (try dsimp only at hSw); go_simp; try (with_reducible rfl)))
                      | refine wpAnyH_take (i := 21) (oi := _) (v := undef) (by simp only [List.getElem?_toArray, List.getElem?_cons_succ, List.getElem?_cons_zero]; rfl) (by kernel_rfl) (by kernel_rfl) (by kernel_rfl) (by exact fun _ _ _ h => h) (Or.inr ⟨by rfl, rfl⟩) (by assumption) ?_
                    try simp only [Act.put, List.setIfInBounds_toArray, List.set_cons_zero, List.set_cons_succ]
                    first
                      | (refine wpAnyH_take (i := 22) (oi := _) (v := ?vop14) (by simp only [List.getElem?_toArray, List.getElem?_cons_succ, List.getElem?_cons_zero]; rfl) (by kernel_rfl) (by kernel_rfl) (by kernel_rfl) (by exact fun _ _ _ h => h) (Or.inl ⟨by rfl, ?hyop14⟩) (by assumption) ?restop14
                         case hyop14 => (intro w hSw; (try dsimp only at hSw); go_simp; try (with_reducible rfl)))
                      | refine wpAnyH_take (i := 22) (oi := _) (v := undef) (by simp only [List.getElem?_toArray, List.getElem?_cons_succ, List.getElem?_cons_zero]; rfl) (by kernel_rfl) (by kernel_rfl) (by kernel_rfl) (by exact fun _ _ _ h => h) (Or.inr ⟨by rfl, rfl⟩) (by assumption) ?_
                    try simp only [Act.put, List.setIfInBounds_toArray, List.set_cons_zero, List.set_cons_succ]
                    refine wpAnyH_done (by kernel_rfl) ?_ _
                    go_wp2
                    go_roundw
                    case rel => exact ⟨k + 1, m + 1, B, O5, by omega, by go_num, by omega, by omega, HPX.out.ext (by first | exact gr_drewN _ _ _ | exact gr_none (gr_drew _ _) (gr_drew _ _)), HB6.out.ext (by first | exact gr_drewN _ _ _ | exact gr_none (gr_drew _ _) (gr_drew _ _))⟩
                    case measure => simp [intOf] <;> omega
                · as_aux_lemma =>
                    have hi1 : decide ((0 : Int) ≤ i) = false := by simpa using hi0
                    clear hi e1 e2 e3 e1' e2' e3' e2n ec hE hpr0 hbk hpg0 q1 hx hcelll HIX HST HP6
                    go_wp2_with fail
                    refine wp_region_held_drew (S := fun w' => w'.cell? ⟨wr.heap.size, 2, none⟩ = some (.int .i64 i)) (by kernel_rfl) ?_ (fun hHeld => ?_)
                    · ((try dsimp only); exact o2)
                    first
                      | (refine wpAnyH_take (i := 0) (oi := _) (v := ?vop15) (by simp only [List.getElem?_toArray, List.getElem?_cons_zero]; rfl) (by kernel_rfl) (by kernel_rfl) (by kernel_rfl) (by exact fun _ _ _ h => h) (Or.inl ⟨by rfl, ?hyop15⟩) (by assumption) ?restop15
                         case hyop15 => (intro w hSw; (try dsimp only at hSw); go_simp; try (with_reducible rfl)))
                      | refine wpAnyH_take (i := 0) (oi := _) (v := undef) (by simp only [List.getElem?_toArray, List.getElem?_cons_zero]; rfl) (by kernel_rfl) (by kernel_rfl) (by kernel_rfl) (by exact fun _ _ _ h => h) (Or.inr ⟨by rfl, rfl⟩) (by assumption) ?_
                    try simp only [Act.put, List.setIfInBounds_toArray, List.set_cons_zero, List.set_cons_succ]
                    first
                      | (refine wpAnyH_take (i := 1) (oi := _) (v := ?vop16) (by simp only [List.getElem?_toArray, List.getElem?_cons_succ, List.getElem?_cons_zero]; rfl) (by kernel_rfl) (by kernel_rfl) (by kernel_rfl) (by exact fun _ _ _ h => h) (Or.inl ⟨by rfl, ?hyop16⟩) (by assumption) ?restop16
                         case hyop16 => (intro w hSw; (try dsimp only at hSw); go_simp; try (with_reducible rfl)))
                      | refine wpAnyH_take (i := 1) (oi := _) (v := undef) (by simp only [List.getElem?_toArray, List.getElem?_cons_succ, List.getElem?_cons_zero]; rfl) (by kernel_rfl) (by kernel_rfl) (by kernel_rfl) (by exact fun _ _ _ h => h) (Or.inr ⟨by rfl, rfl⟩) (by assumption) ?_
                    try simp only [Act.put, List.setIfInBounds_toArray, List.set_cons_zero, List.set_cons_succ]
                    first
                      | (refine wpAnyH_take (i := 2) (oi := _) (v := ?vop17) (by simp only [List.getElem?_toArray, List.getElem?_cons_succ, List.getElem?_cons_zero]; rfl) (by kernel_rfl) (by kernel_rfl) (by kernel_rfl) (by exact fun _ _ _ h => h) (Or.inl ⟨by rfl, ?hyop17⟩) (by assumption) ?restop17
                         case hyop17 => (intro w hSw; (try dsimp only at hSw); go_simp; try (with_reducible rfl)))
                      | refine wpAnyH_take (i := 2) (oi := _) (v := undef) (by simp only [List.getElem?_toArray, List.getElem?_cons_succ, List.getElem?_cons_zero]; rfl) (by kernel_rfl) (by kernel_rfl) (by kernel_rfl) (by exact fun _ _ _ h => h) (Or.inr ⟨by rfl, rfl⟩) (by assumption) ?_
                    try simp only [Act.put, List.setIfInBounds_toArray, List.set_cons_zero, List.set_cons_succ]
                    first
                      | (refine wpAnyH_take (i := 3) (oi := _) (v := ?vop18) (by simp only [List.getElem?_toArray, List.getElem?_cons_succ, List.getElem?_cons_zero]; rfl) (by kernel_rfl) (by kernel_rfl) (by kernel_rfl) (by exact fun _ _ _ h => h) (Or.inl ⟨by rfl, ?hyop18⟩) (by assumption) ?restop18
                         case hyop18 => (intro w hSw; (try dsimp only at hSw); go_simp; try (with_reducible rfl)))
                      | refine wpAnyH_take (i := 3) (oi := _) (v := undef) (by simp only [List.getElem?_toArray, List.getElem?_cons_succ, List.getElem?_cons_zero]; rfl) (by kernel_rfl) (by kernel_rfl) (by kernel_rfl) (by exact fun _ _ _ h => h) (Or.inr ⟨by rfl, rfl⟩) (by assumption) ?_
                    try simp only [Act.put, List.setIfInBounds_toArray, List.set_cons_zero, List.set_cons_succ]
                    first
                      | (refine wpAnyH_take (i := 4) (oi := _) (v := ?vop19) (by simp only [List.getElem?_toArray, List.getElem?_cons_succ, List.getElem?_cons_zero]; rfl) (by kernel_rfl) (by kernel_rfl) (by kernel_rfl) (by exact fun _ _ _ h => h) (Or.inl ⟨by rfl, ?hyop19⟩) (by assumption) ?restop19
                         case hyop19 => (intro w hSw; (try dsimp only at hSw); go_simp; try (with_reducible rfl)))
                      | refine wpAnyH_take (i := 4) (oi := _) (v := undef) (by simp only [List.getElem?_toArray, List.getElem?_cons_succ, List.getElem?_cons_zero]; rfl) (by kernel_rfl) (by kernel_rfl) (by kernel_rfl) (by exact fun _ _ _ h => h) (Or.inr ⟨by rfl, rfl⟩) (by assumption) ?_
                    try simp only [Act.put, List.setIfInBounds_toArray, List.set_cons_zero, List.set_cons_succ]
                    first
                      | (refine wpAnyH_take (i := 5) (oi := _) (v := ?vop20) (by simp only [List.getElem?_toArray, List.getElem?_cons_succ, List.getElem?_cons_zero]; rfl) (by kernel_rfl) (by kernel_rfl) (by kernel_rfl) (by exact fun _ _ _ h => h) (Or.inl ⟨by rfl, ?hyop20⟩) (by assumption) ?restop20
                         case hyop20 => (intro w hSw; (try dsimp only at hSw); go_simp; try (with_reducible rfl)))
                      | refine wpAnyH_take (i := 5) (oi := _) (v := undef) (by simp only [List.getElem?_toArray, List.getElem?_cons_succ, List.getElem?_cons_zero]; rfl) (by kernel_rfl) (by kernel_rfl) (by kernel_rfl) (by exact fun _ _ _ h => h) (Or.inr ⟨by rfl, rfl⟩) (by assumption) ?_
                    try simp only [Act.put, List.setIfInBounds_toArray, List.set_cons_zero, List.set_cons_succ]
                    first
                      | (refine wpAnyH_take (i := 6) (oi := _) (v := ?vop21) (by simp only [List.getElem?_toArray, List.getElem?_cons_succ, List.getElem?_cons_zero]; rfl) (by kernel_rfl) (by kernel_rfl) (by kernel_rfl) (by exact fun _ _ _ h => h) (Or.inl ⟨by rfl, ?hyop21⟩) (by assumption) ?restop21
                         case hyop21 => (intro w hSw; (try dsimp only at hSw); go_simp; try (with_reducible rfl)))
                      | refine wpAnyH_take (i := 6) (oi := _) (v := undef) (by simp only [List.getElem?_toArray, List.getElem?_cons_succ, List.getElem?_cons_zero]; rfl) (by kernel_rfl) (by kernel_rfl) (by kernel_rfl) (by exact fun _ _ _ h => h) (Or.inr ⟨by rfl, rfl⟩) (by assumption) ?_
                    try simp only [Act.put, List.setIfInBounds_toArray, List.set_cons_zero, List.set_cons_succ]
                    first
                      | (refine wpAnyH_take (i := 7) (oi := _) (v := ?vop22) (by simp only [List.getElem?_toArray, List.getElem?_cons_succ, List.getElem?_cons_zero]; rfl) (by kernel_rfl) (by kernel_rfl) (by kernel_rfl) (by exact fun _ _ _ h => h) (Or.inl ⟨by rfl, ?hyop22⟩) (by assumption) ?restop22
                         case hyop22 => (intro w hSw; (try dsimp only at hSw); go_simp; try (with_reducible rfl)))
                      | refine wpAnyH_take (i := 7) (oi := _) (v := undef) (by simp only [List.getElem?_toArray, List.getElem?_cons_succ, List.getElem?_cons_zero]; rfl) (by kernel_rfl) (by kernel_rfl) (by kernel_rfl) (by exact fun _ _ _ h => h) (Or.inr ⟨by rfl, rfl⟩) (by assumption) ?_
                    try simp only [Act.put, List.setIfInBounds_toArray, List.set_cons_zero, List.set_cons_succ]
                    refine wpAnyH_take (i := 8) (oi := _) (v := undef) (by simp only [List.getElem?_toArray, List.getElem?_cons_succ, List.getElem?_cons_zero]; rfl) (by kernel_rfl) (by kernel_rfl) (by kernel_rfl) (by exact fun _ _ _ h => h) (Or.inr ⟨by rfl, rfl⟩) (by assumption) ?_
                    try simp only [Act.put, List.setIfInBounds_toArray, List.set_cons_zero, List.set_cons_succ]
                    refine wpAnyH_take (i := 9) (oi := _) (v := undef) (by simp only [List.getElem?_toArray, List.getElem?_cons_succ, List.getElem?_cons_zero]; rfl) (by kernel_rfl) (by kernel_rfl) (by kernel_rfl) (by exact fun _ _ _ h => h) (Or.inr ⟨by rfl, rfl⟩) (by assumption) ?_
                    try simp only [Act.put, List.setIfInBounds_toArray, List.set_cons_zero, List.set_cons_succ]
                    refine wpAnyH_take (i := 10) (oi := _) (v := undef) (by simp only [List.getElem?_toArray, List.getElem?_cons_succ, List.getElem?_cons_zero]; rfl) (by kernel_rfl) (by kernel_rfl) (by kernel_rfl) (by exact fun _ _ _ h => h) (Or.inr ⟨by rfl, rfl⟩) (by assumption) ?_
                    try simp only [Act.put, List.setIfInBounds_toArray, List.set_cons_zero, List.set_cons_succ]
                    refine wpAnyH_take (i := 11) (oi := _) (v := undef) (by simp only [List.getElem?_toArray, List.getElem?_cons_succ, List.getElem?_cons_zero]; rfl) (by kernel_rfl) (by kernel_rfl) (by kernel_rfl) (by exact fun _ _ _ h => h) (Or.inr ⟨by rfl, rfl⟩) (by assumption) ?_
                    try simp only [Act.put, List.setIfInBounds_toArray, List.set_cons_zero, List.set_cons_succ]
                    refine wpAnyH_take (i := 12) (oi := _) (v := undef) (by simp only [List.getElem?_toArray, List.getElem?_cons_succ, List.getElem?_cons_zero]; rfl) (by kernel_rfl) (by kernel_rfl) (by kernel_rfl) (by exact fun _ _ _ h => h) (Or.inr ⟨by rfl, rfl⟩) (by assumption) ?_
                    try simp only [Act.put, List.setIfInBounds_toArray, List.set_cons_zero, List.set_cons_succ]
                    refine wpAnyH_take (i := 13) (oi := _) (v := undef) (by simp only [List.getElem?_toArray, List.getElem?_cons_succ, List.getElem?_cons_zero]; rfl) (by kernel_rfl) (by kernel_rfl) (by kernel_rfl) (by exact fun _ _ _ h => h) (Or.inr ⟨by rfl, rfl⟩) (by assumption) ?_
                    try simp only [Act.put, List.setIfInBounds_toArray, List.set_cons_zero, List.set_cons_succ]
                    refine wpAnyH_take (i := 14) (oi := _) (v := undef) (by simp only [List.getElem?_toArray, List.getElem?_cons_succ, List.getElem?_cons_zero]; rfl) (by kernel_rfl) (by kernel_rfl) (by kernel_rfl) (by exact fun _ _ _ h => h) (Or.inr ⟨by rfl, rfl⟩) (by assumption) ?_
                    try simp only [Act.put, List.setIfInBounds_toArray, List.set_cons_zero, List.set_cons_succ]
                    refine wpAnyH_take (i := 15) (oi := _) (v := undef) (by simp only [List.getElem?_toArray, List.getElem?_cons_succ, List.getElem?_cons_zero]; rfl) (by kernel_rfl) (by kernel_rfl) (by kernel_rfl) (by exact fun _ _ _ h => h) (Or.inr ⟨by rfl, rfl⟩) (by assumption) ?_
                    try simp only [Act.put, List.setIfInBounds_toArray, List.set_cons_zero, List.set_cons_succ]
                    refine wpAnyH_take (i := 16) (oi := _) (v := undef) (by simp only [List.getElem?_toArray, List.getElem?_cons_succ, List.getElem?_cons_zero]; rfl) (by kernel_rfl) (by kernel_rfl) (by kernel_rfl) (by exact fun _ _ _ h => h) (Or.inr ⟨by rfl, rfl⟩) (by assumption) ?_
                    try simp only [Act.put, List.setIfInBounds_toArray, List.set_cons_zero, List.set_cons_succ]
                    first
                      | (refine wpAnyH_take (i := 17) (oi := _) (v := ?vop23) (by simp only [List.getElem?_toArray, List.getElem?_cons_succ, List.getElem?_cons_zero]; rfl) (by kernel_rfl) (by kernel_rfl) (by kernel_rfl) (by exact fun _ _ _ h => h) (Or.inl ⟨by rfl, ?hyop23⟩) (by assumption) ?restop23
                         case hyop23 => (intro w hSw; (try dsimp only at hSw); go_simp; try (with_reducible rfl)))
                      | refine wpAnyH_take (i := 17) (oi := _) (v := undef) (by simp only [List.getElem?_toArray, List.getElem?_cons_succ, List.getElem?_cons_zero]; rfl) (by kernel_rfl) (by kernel_rfl) (by kernel_rfl) (by exact fun _ _ _ h => h) (Or.inr ⟨by rfl, rfl⟩) (by assumption) ?_
                    try simp only [Act.put, List.setIfInBounds_toArray, List.set_cons_zero, List.set_cons_succ]
                    first
                      | (refine wpAnyH_take (i := 18) (oi := _) (v := ?vop24) (by simp only [List.getElem?_toArray, List.getElem?_cons_succ, List.getElem?_cons_zero]; rfl) (by kernel_rfl) (by kernel_rfl) (by kernel_rfl) (by exact fun _ _ _ h => h) (Or.inl ⟨by rfl, ?hyop24⟩) (by assumption) ?restop24
                         case hyop24 => (intro w hSw; (try dsimp only at hSw); go_simp; try (with_reducible rfl)))
                      | refine wpAnyH_take (i := 18) (oi := _) (v := undef) (by simp only [List.getElem?_toArray, List.getElem?_cons_succ, List.getElem?_cons_zero]; rfl) (by kernel_rfl) (by kernel_rfl) (by kernel_rfl) (by exact fun _ _ _ h => h) (Or.inr ⟨by rfl, rfl⟩) (by assumption) ?_
                    try simp only [Act.put, List.setIfInBounds_toArray, List.set_cons_zero, List.set_cons_succ]
                    refine wpAnyH_done (by kernel_rfl) ?_ _
                    go_wp2_with fail
                    refine wp_region_held_drew (S := fun w' => w'.cell? ⟨w5.heap.size, 2, none⟩ = some (.int .i64 (er : Int))) (by kernel_rfl) ?_ (fun hHeld => ?_)
                    · ((try dsimp only); exact t2)
                    first
                      | (refine wpAnyH_take (i := 0) (oi := _) (v := ?vop25) (by simp only [List.getElem?_toArray, List.getElem?_cons_zero]; rfl) (by kernel_rfl) (by kernel_rfl) (by kernel_rfl) (by exact fun _ _ _ h => h) (Or.inl ⟨by rfl, ?hyop25⟩) (by assumption) ?restop25
                         case hyop25 => (intro w hSw; (try dsimp only at hSw); go_simp; try (with_reducible rfl)))
                      | refine wpAnyH_take (i := 0) (oi := _) (v := undef) (by simp only [List.getElem?_toArray, List.getElem?_cons_zero]; rfl) (by kernel_rfl) (by kernel_rfl) (by kernel_rfl) (by exact fun _ _ _ h => h) (Or.inr ⟨by rfl, rfl⟩) (by assumption) ?_
                    try simp only [Act.put, List.setIfInBounds_toArray, List.set_cons_zero, List.set_cons_succ]
                    first
                      | (refine wpAnyH_take (i := 1) (oi := _) (v := ?vop26) (by simp only [List.getElem?_toArray, List.getElem?_cons_succ, List.getElem?_cons_zero]; rfl) (by kernel_rfl) (by kernel_rfl) (by kernel_rfl) (by exact fun _ _ _ h => h) (Or.inl ⟨by rfl, ?hyop26⟩) (by assumption) ?restop26
                         case hyop26 => (intro w hSw; (try dsimp only at hSw); go_simp; try (with_reducible rfl)))
                      | refine wpAnyH_take (i := 1) (oi := _) (v := undef) (by simp only [List.getElem?_toArray, List.getElem?_cons_succ, List.getElem?_cons_zero]; rfl) (by kernel_rfl) (by kernel_rfl) (by kernel_rfl) (by exact fun _ _ _ h => h) (Or.inr ⟨by rfl, rfl⟩) (by assumption) ?_
                    try simp only [Act.put, List.setIfInBounds_toArray, List.set_cons_zero, List.set_cons_succ]
                    first
                      | (refine wpAnyH_take (i := 2) (oi := _) (v := ?vop27) (by simp only [List.getElem?_toArray, List.getElem?_cons_succ, List.getElem?_cons_zero]; rfl) (by kernel_rfl) (by kernel_rfl) (by kernel_rfl) (by exact fun _ _ _ h => h) (Or.inl ⟨by rfl, ?hyop27⟩) (by assumption) ?restop27
                         case hyop27 => (intro w hSw; (try dsimp only at hSw); go_simp; try (with_reducible rfl)))
                      | refine wpAnyH_take (i := 2) (oi := _) (v := undef) (by simp only [List.getElem?_toArray, List.getElem?_cons_succ, List.getElem?_cons_zero]; rfl) (by kernel_rfl) (by kernel_rfl) (by kernel_rfl) (by exact fun _ _ _ h => h) (Or.inr ⟨by rfl, rfl⟩) (by assumption) ?_
                    try simp only [Act.put, List.setIfInBounds_toArray, List.set_cons_zero, List.set_cons_succ]
                    first
                      | (refine wpAnyH_take (i := 3) (oi := _) (v := ?vop28) (by simp only [List.getElem?_toArray, List.getElem?_cons_succ, List.getElem?_cons_zero]; rfl) (by kernel_rfl) (by kernel_rfl) (by kernel_rfl) (by exact fun _ _ _ h => h) (Or.inl ⟨by rfl, ?hyop28⟩) (by assumption) ?restop28
                         case hyop28 => (intro w hSw; (try dsimp only at hSw); go_simp; try (with_reducible rfl)))
                      | refine wpAnyH_take (i := 3) (oi := _) (v := undef) (by simp only [List.getElem?_toArray, List.getElem?_cons_succ, List.getElem?_cons_zero]; rfl) (by kernel_rfl) (by kernel_rfl) (by kernel_rfl) (by exact fun _ _ _ h => h) (Or.inr ⟨by rfl, rfl⟩) (by assumption) ?_
                    try simp only [Act.put, List.setIfInBounds_toArray, List.set_cons_zero, List.set_cons_succ]
                    first
                      | (refine wpAnyH_take (i := 4) (oi := _) (v := ?vop29) (by simp only [List.getElem?_toArray, List.getElem?_cons_succ, List.getElem?_cons_zero]; rfl) (by kernel_rfl) (by kernel_rfl) (by kernel_rfl) (by exact fun _ _ _ h => h) (Or.inl ⟨by rfl, ?hyop29⟩) (by assumption) ?restop29
                         case hyop29 => (intro w hSw; (try dsimp only at hSw); go_simp; try (with_reducible rfl)))
                      | refine wpAnyH_take (i := 4) (oi := _) (v := undef) (by simp only [List.getElem?_toArray, List.getElem?_cons_succ, List.getElem?_cons_zero]; rfl) (by kernel_rfl) (by kernel_rfl) (by kernel_rfl) (by exact fun _ _ _ h => h) (Or.inr ⟨by rfl, rfl⟩) (by assumption) ?_
                    try simp only [Act.put, List.setIfInBounds_toArray, List.set_cons_zero, List.set_cons_succ]
                    first
                      | (refine wpAnyH_take (i := 5) (oi := _) (v := ?vop30) (by simp only [List.getElem?_toArray, List.getElem?_cons_succ, List.getElem?_cons_zero]; rfl) (by kernel_rfl) (by kernel_rfl) (by kernel_rfl) (by exact fun _ _ _ h => h) (Or.inl ⟨by rfl, ?hyop30⟩) (by assumption) ?restop30
                         case hyop30 => (intro w hSw; (try dsimp only at hSw); go_simp; try (with_reducible rfl)))
                      | refine wpAnyH_take (i := 5) (oi := _) (v := undef) (by simp only [List.getElem?_toArray, List.getElem?_cons_succ, List.getElem?_cons_zero]; rfl) (by kernel_rfl) (by kernel_rfl) (by kernel_rfl) (by exact fun _ _ _ h => h) (Or.inr ⟨by rfl, rfl⟩) (by assumption) ?_
                    try simp only [Act.put, List.setIfInBounds_toArray, List.set_cons_zero, List.set_cons_succ]
                    first
                      | (refine wpAnyH_take (i := 6) (oi := _) (v := ?vop31) (by simp only [List.getElem?_toArray, List.getElem?_cons_succ, List.getElem?_cons_zero]; rfl) (by kernel_rfl) (by kernel_rfl) (by kernel_rfl) (by exact fun _ _ _ h => h) (Or.inl ⟨by rfl, ?hyop31⟩) (by assumption) ?restop31
                         case hyop31 => (intro w hSw; (try dsimp only at hSw); go_simp; try (with_reducible rfl)))
                      | refine wpAnyH_take (i := 6) (oi := _) (v := undef) (by simp only [List.getElem?_toArray, List.getElem?_cons_succ, List.getElem?_cons_zero]; rfl) (by kernel_rfl) (by kernel_rfl) (by kernel_rfl) (by exact fun _ _ _ h => h) (Or.inr ⟨by rfl, rfl⟩) (by assumption) ?_
                    try simp only [Act.put, List.setIfInBounds_toArray, List.set_cons_zero, List.set_cons_succ]
                    first
                      | (refine wpAnyH_take (i := 7) (oi := _) (v := ?vop32) (by simp only [List.getElem?_toArray, List.getElem?_cons_succ, List.getElem?_cons_zero]; rfl) (by kernel_rfl) (by kernel_rfl) (by kernel_rfl) (by exact fun _ _ _ h => h) (Or.inl ⟨by rfl, ?hyop32⟩) (by assumption) ?restop32
                         case hyop32 => (intro w hSw; (try dsimp only at hSw); go_simp; try (with_reducible rfl)))
                      | refine wpAnyH_take (i := 7) (oi := _) (v := undef) (by simp only [List.getElem?_toArray, List.getElem?_cons_succ, List.getElem?_cons_zero]; rfl) (by kernel_rfl) (by kernel_rfl) (by kernel_rfl) (by exact fun _ _ _ h => h) (Or.inr ⟨by rfl, rfl⟩) (by assumption) ?_
                    try simp only [Act.put, List.setIfInBounds_toArray, List.set_cons_zero, List.set_cons_succ]
                    refine wpAnyH_take (i := 8) (oi := _) (v := undef) (by simp only [List.getElem?_toArray, List.getElem?_cons_succ, List.getElem?_cons_zero]; rfl) (by kernel_rfl) (by kernel_rfl) (by kernel_rfl) (by exact fun _ _ _ h => h) (Or.inr ⟨by rfl, rfl⟩) (by assumption) ?_
                    try simp only [Act.put, List.setIfInBounds_toArray, List.set_cons_zero, List.set_cons_succ]
                    refine wpAnyH_take (i := 9) (oi := _) (v := undef) (by simp only [List.getElem?_toArray, List.getElem?_cons_succ, List.getElem?_cons_zero]; rfl) (by kernel_rfl) (by kernel_rfl) (by kernel_rfl) (by exact fun _ _ _ h => h) (Or.inr ⟨by rfl, rfl⟩) (by assumption) ?_
                    try simp only [Act.put, List.setIfInBounds_toArray, List.set_cons_zero, List.set_cons_succ]
                    refine wpAnyH_take (i := 10) (oi := _) (v := undef) (by simp only [List.getElem?_toArray, List.getElem?_cons_succ, List.getElem?_cons_zero]; rfl) (by kernel_rfl) (by kernel_rfl) (by kernel_rfl) (by exact fun _ _ _ h => h) (Or.inr ⟨by rfl, rfl⟩) (by assumption) ?_
                    try simp only [Act.put, List.setIfInBounds_toArray, List.set_cons_zero, List.set_cons_succ]
                    refine wpAnyH_take (i := 11) (oi := _) (v := undef) (by simp only [List.getElem?_toArray, List.getElem?_cons_succ, List.getElem?_cons_zero]; rfl) (by kernel_rfl) (by kernel_rfl) (by kernel_rfl) (by exact fun _ _ _ h => h) (Or.inr ⟨by rfl, rfl⟩) (by assumption) ?_
                    try simp only [Act.put, List.setIfInBounds_toArray, List.set_cons_zero, List.set_cons_succ]
                    refine wpAnyH_take (i := 12) (oi := _) (v := undef) (by simp only [List.getElem?_toArray, List.getElem?_cons_succ, List.getElem?_cons_zero]; rfl) (by kernel_rfl) (by kernel_rfl) (by kernel_rfl) (by exact fun _ _ _ h => h) (Or.inr ⟨by rfl, rfl⟩) (by assumption) ?_
                    try simp only [Act.put, List.setIfInBounds_toArray, List.set_cons_zero, List.set_cons_succ]
                    refine wpAnyH_take (i := 13) (oi := _) (v := undef) (by simp only [List.getElem?_toArray, List.getElem?_cons_succ, List.getElem?_cons_zero]; rfl) (by kernel_rfl) (by kernel_rfl) (by kernel_rfl) (by exact fun _ _ _ h => h) (Or.inr ⟨by rfl, rfl⟩) (by assumption) ?_
                    try simp only [Act.put, List.setIfInBounds_toArray, List.set_cons_zero, List.set_cons_succ]
                    refine wpAnyH_take (i := 14) (oi := _) (v := undef) (by simp only [List.getElem?_toArray, List.getElem?_cons_succ, List.getElem?_cons_zero]; rfl) (by kernel_rfl) (by kernel_rfl) (by kernel_rfl) (by exact fun _ _ _ h => h) (Or.inr ⟨by rfl, rfl⟩) (by assumption) ?_
                    try simp only [Act.put, List.setIfInBounds_toArray, List.set_cons_zero, List.set_cons_succ]
                    refine wpAnyH_take (i := 15) (oi := _) (v := undef) (by simp only [List.getElem?_toArray, List.getElem?_cons_succ, List.getElem?_cons_zero]; rfl) (by kernel_rfl) (by kernel_rfl) (by kernel_rfl) (by exact fun _ _ _ h => h) (Or.inr ⟨by rfl, rfl⟩) (by assumption) ?_
                    try simp only [Act.put, List.setIfInBounds_toArray, List.set_cons_zero, List.set_cons_succ]
                    refine wpAnyH_take (i := 16) (oi := _) (v := undef) (by simp only [List.getElem?_toArray, List.getElem?_cons_succ, List.getElem?_cons_zero]; rfl) (by kernel_rfl) (by kernel_rfl) (by kernel_rfl) (by exact fun _ _ _ h => h) (Or.inr ⟨by rfl, rfl⟩) (by assumption) ?_
                    try simp only [Act.put, List.setIfInBounds_toArray, List.set_cons_zero, List.set_cons_succ]
                    refine wpAnyH_take (i := 17) (oi := _) (v := undef) (by simp only [List.getElem?_toArray, List.getElem?_cons_succ, List.getElem?_cons_zero]; rfl) (by kernel_rfl) (by kernel_rfl) (by kernel_rfl) (by exact fun _ _ _ h => h) (Or.inr ⟨by rfl, rfl⟩) (by assumption) ?_
                    try simp only [Act.put, List.setIfInBounds_toArray, List.set_cons_zero, List.set_cons_succ]
                    refine wpAnyH_take (i := 18) (oi := _) (v := undef) (by simp only [List.getElem?_toArray, List.getElem?_cons_succ, List.getElem?_cons_zero]; rfl) (by kernel_rfl) (by kernel_rfl) (by kernel_rfl) (by exact fun _ _ _ h => h) (Or.inr ⟨by rfl, rfl⟩) (by assumption) ?_
                    try simp only [Act.put, List.setIfInBounds_toArray, List.set_cons_zero, List.set_cons_succ]
                    refine wpAnyH_take (i := 19) (oi := _) (v := undef) (by simp only [List.getElem?_toArray, List.getElem?_cons_succ, List.getElem?_cons_zero]; rfl) (by kernel_rfl) (by kernel_rfl) (by kernel_rfl) (by exact fun _ _ _ h => h) (Or.inr ⟨by rfl, rfl⟩) (by assumption) ?_
                    try simp only [Act.put, List.setIfInBounds_toArray, List.set_cons_zero, List.set_cons_succ]
                    refine wpAnyH_take (i := 20) (oi := _) (v := undef) (by simp only [List.getElem?_toArray, List.getElem?_cons_succ, List.getElem?_cons_zero]; rfl) (by kernel_rfl) (by kernel_rfl) (by kernel_rfl) (by exact fun _ _ _ h => h) (Or.inr ⟨by rfl, rfl⟩) (by assumption) ?_
                    try simp only [Act.put, List.setIfInBounds_toArray, List.set_cons_zero, List.set_cons_succ]
                    first
                      | (refine wpAnyH_take (i := 21) (oi := _) (v := ?vop33) (by simp only [List.getElem?_toArray, List.getElem?_cons_succ, List.getElem?_cons_zero]; rfl) (by kernel_rfl) (by kernel_rfl) (by kernel_rfl) (by exact fun _ _ _ h => h) (Or.inl ⟨by rfl, ?hyop33⟩) (by assumption) ?restop33
                         case hyop33 => (intro w hSw; (try dsimp only at hSw); go_simp; try (with_reducible rfl)))
                      | refine wpAnyH_take (i := 21) (oi := _) (v := undef) (by simp only [List.getElem?_toArray, List.getElem?_cons_succ, List.getElem?_cons_zero]; rfl) (by kernel_rfl) (by kernel_rfl) (by kernel_rfl) (by exact fun _ _ _ h => h) (Or.inr ⟨by rfl, rfl⟩) (by assumption) ?_
                    try simp only [Act.put, List.setIfInBounds_toArray, List.set_cons_zero, List.set_cons_succ]
                    first
                      | (refine wpAnyH_take (i := 22) (oi := _) (v := ?vop34) (by simp only [List.getElem?_toArray, List.getElem?_cons_succ, List.getElem?_cons_zero]; rfl) (by kernel_rfl) (by kernel_rfl) (by kernel_rfl) (by exact fun _ _ _ h => h) (Or.inl ⟨by rfl, ?hyop34⟩) (by assumption) ?restop34
                         case hyop34 => (intro w hSw; (try dsimp only at hSw); go_simp; try (with_reducible rfl)))
                      | refine wpAnyH_take (i := 22) (oi := _) (v := undef) (by simp only [List.getElem?_toArray, List.getElem?_cons_succ, List.getElem?_cons_zero]; rfl) (by kernel_rfl) (by kernel_rfl) (by kernel_rfl) (by exact fun _ _ _ h => h) (Or.inr ⟨by rfl, rfl⟩) (by assumption) ?_
                    try simp only [Act.put, List.setIfInBounds_toArray, List.set_cons_zero, List.set_cons_succ]
                    refine wpAnyH_done (by kernel_rfl) ?_ _
                    go_wp2
                    go_roundw
                    case rel => exact ⟨k + 1, m + 1, B, O5, by omega, by go_num, by omega, by omega, HPX.out.ext (by first | exact gr_drewN _ _ _ | exact gr_none (gr_drew _ _) (gr_drew _ _)), HB6.out.ext (by first | exact gr_drewN _ _ _ | exact gr_none (gr_drew _ _) (gr_drew _ _))⟩
                    case measure => simp [intOf] <;> omega
              · as_aux_lemma =>
                  rw [ec] at e2' e3'
                  obtain rfl : er = 0 := e2'
                  obtain ⟨_, _, _, gp, offp, ep, hcp, -, -, hAp, hxp⟩ := hpr0
                  cases ep
                  obtain rfl := hAp (by omega)
                  have p1 : w6.cell? ⟨gp, offp + K, none⟩ = some pL[K].1 := by rw [hxp K (by omega), List.getElem?_map, List.getElem?_eq_getElem hK]; rfl
                  have hpg := (hpg0 pL[K] (List.getElem_mem hK)).ext HPX.out.gr
                  have e4 : bs = pL[K].2 := e3'
                  obtain ⟨⟨qv, qb⟩, hq⟩ : ∃ x, x = pL[K] := ⟨_, rfl⟩
                  rw [← hq] at p1 hpg e4
                  have e5 : bs = qb := e4
                  have hqr : RdB w6 qv qb := hpg
                  obtain ⟨Aq, cq, rfl⟩ := RdB.form hqr
                  have p2 : w6.cell? ⟨gp, offp + K, none⟩ = some (.slice Aq qb.length cq) := p1
                  have hob : RdB w6 (.slice A5 bs.length c5) bs := HO6.out
                  have HEQ : Hid (∀ wx, w6.grownBy wx none → Calls Tryz.prog 15 #[.slice A5 bs.length c5, .slice Aq qb.length cq] wx fun e w' => e = .returned (.bool (bs == qb)) ∧ wx = w') := fun wx g => eqBytes_any _ _ bs qb wx (hob.ext g) (hqr.ext g)
                  have hbe : (bs == qb) = true := by rw [e5]; simp
                  have hK2 : (K : Int) < (pL.length : Int) := by omega
                  have hK0 : (0 : Int) ≤ (K : Int) := by omega
                  subst ek
                  clear  e1 e2 e3 e1' e3' e4 e5 hob hqr hpg p1 hq hxp ec hbk hpg0 q1 hx hcelll HIX HST HP6
                  go_wp2_with fail
                  go_region_held3 (fun w' => w'.cell? ⟨wr.heap.size, 2, none⟩ = some (.int .i64 (K : Int)) ∧ w'.cell? ⟨gl, offl + j * 2 + 1, none⟩ = some (.slice (some ⟨gp, offp, none⟩) pL.length cp)) (go_keep) (fail)
                  go_wp2_with fail
                  go_region_held3 (fun w' => w'.cell? ⟨w5.heap.size, 2, none⟩ = some (.int .i64 ((0 : Nat) : Int)) ∧ w'.cell? ⟨w5.heap.size, 0, none⟩ = some (.slice A5 bs.length c5) ∧ w'.cell? ⟨wr.heap.size, 2, none⟩ = some (.int .i64 (K : Int)) ∧ w'.cell? ⟨gl, offl + j * 2 + 1, none⟩ = some (.slice (some ⟨gp, offp, none⟩) pL.length cp) ∧ w'.cell? ⟨gp, offp + K, none⟩ = some (.slice Aq qb.length cq)) (go_keep) (first
                    | (go_at_call 15; (with_reducible refine (HEQ.out _ ?_).mono ?_); (first | exact gr_drewN _ _ _ | exact gr_none (gr_drew _ _) (gr_drew _ _) | exact gr_drew _ _ | exact gr_refl _ _); rintro e w7 ⟨rfl, rfl⟩; rw [hbe]))
                  go_wp2
                  go_roundw
                  case rel => exact ⟨k + 1, m + 1, B, O5, by omega, by go_num, by omega, by omega, HPX.out.ext (by first | exact gr_drewN _ _ _ | exact gr_none (gr_drew _ _) (gr_drew _ _)), HB6.out.ext (by first | exact gr_drewN _ _ _ | exact gr_none (gr_drew _ _) (gr_drew _ _))⟩
                  case measure => simp [intOf] <;> omega
            · as_aux_lemma =>
                have hz0 : ¬ (0 : Int) ≤ z := by omega
                have hz1 : decide ((0 : Int) ≤ z) = false := by simpa using hz0
                rw [ec] at e2'
                have e2n : er = E := e2'
                have her : ((er : Int) == 0) = false := by rw [e2n, beq_eq_false_iff_ne]; omega
                clear ez e1 e2 e3 e1' e2' e3' e2n ec hE HIX HST HP6
                go_wp2_with fail
                refine wp_region_held_drew (S := fun _ => True) (by kernel_rfl) ?_ (fun hHeld => ?_)
                · trivial
                first
                  | (refine wpAnyH_take (i := 0) (oi := _) (v := ?vop35) (by simp only [List.getElem?_toArray, List.getElem?_cons_zero]; rfl) (by kernel_rfl) (by kernel_rfl) (by kernel_rfl) (by exact fun _ _ _ h => h) (Or.inl ⟨by rfl, ?hyop35⟩) (by assumption) ?restop35
                     case hyop35 => (intro w hSw; (try dsimp only at hSw); go_simp; try (with_reducible rfl)))
                  | refine wpAnyH_take (i := 0) (oi := _) (v := undef) (by simp only [List.getElem?_toArray, List.getElem?_cons_zero]; rfl) (by kernel_rfl) (by kernel_rfl) (by kernel_rfl) (by exact fun _ _ _ h => h) (Or.inr ⟨by rfl, rfl⟩) (by assumption) ?_
                try simp only [Act.put, List.setIfInBounds_toArray, List.set_cons_zero, List.set_cons_succ]
                first
                  | (refine wpAnyH_take (i := 1) (oi := _) (v := ?vop36) (by simp only [List.getElem?_toArray, List.getElem?_cons_succ, List.getElem?_cons_zero]; rfl) (by kernel_rfl) (by kernel_rfl) (by kernel_rfl) (by exact fun _ _ _ h => h) (Or.inl ⟨by rfl, ?hyop36⟩) (by assumption) ?restop36
                     case hyop36 => (intro w hSw; (try dsimp only at hSw); go_simp; try (with_reducible rfl)))
                  | refine wpAnyH_take (i := 1) (oi := _) (v := undef) (by simp only [List.getElem?_toArray, List.getElem?_cons_succ, List.getElem?_cons_zero]; rfl) (by kernel_rfl) (by kernel_rfl) (by kernel_rfl) (by exact fun _ _ _ h => h) (Or.inr ⟨by rfl, rfl⟩) (by assumption) ?_
                try simp only [Act.put, List.setIfInBounds_toArray, List.set_cons_zero, List.set_cons_succ]
                first
                  | (refine wpAnyH_take (i := 2) (oi := _) (v := ?vop37) (by simp only [List.getElem?_toArray, List.getElem?_cons_succ, List.getElem?_cons_zero]; rfl) (by kernel_rfl) (by kernel_rfl) (by kernel_rfl) (by exact fun _ _ _ h => h) (Or.inl ⟨by rfl, ?hyop37⟩) (by assumption) ?restop37
                     case hyop37 => (intro w hSw; (try dsimp only at hSw); go_simp; try (with_reducible rfl)))
                  | refine wpAnyH_take (i := 2) (oi := _) (v := undef) (by simp only [List.getElem?_toArray, List.getElem?_cons_succ, List.getElem?_cons_zero]; rfl) (by kernel_rfl) (by kernel_rfl) (by kernel_rfl) (by exact fun _ _ _ h => h) (Or.inr ⟨by rfl, rfl⟩) (by assumption) ?_
                try simp only [Act.put, List.setIfInBounds_toArray, List.set_cons_zero, List.set_cons_succ]
                refine wpAnyH_take (i := 3) (oi := _) (v := undef) (by simp only [List.getElem?_toArray, List.getElem?_cons_succ, List.getElem?_cons_zero]; rfl) (by kernel_rfl) (by kernel_rfl) (by kernel_rfl) (by exact fun _ _ _ h => h) (Or.inr ⟨by rfl, rfl⟩) (by assumption) ?_
                try simp only [Act.put, List.setIfInBounds_toArray, List.set_cons_zero, List.set_cons_succ]
                refine wpAnyH_take (i := 4) (oi := _) (v := undef) (by simp only [List.getElem?_toArray, List.getElem?_cons_succ, List.getElem?_cons_zero]; rfl) (by kernel_rfl) (by kernel_rfl) (by kernel_rfl) (by exact fun _ _ _ h => h) (Or.inr ⟨by rfl, rfl⟩) (by assumption) ?_
                try simp only [Act.put, List.setIfInBounds_toArray, List.set_cons_zero, List.set_cons_succ]
                refine wpAnyH_take (i := 5) (oi := _) (v := undef) (by simp only [List.getElem?_toArray, List.getElem?_cons_succ, List.getElem?_cons_zero]; rfl) (by kernel_rfl) (by kernel_rfl) (by kernel_rfl) (by exact fun _ _ _ h => h) (Or.inr ⟨by rfl, rfl⟩) (by assumption) ?_
                try simp only [Act.put, List.setIfInBounds_toArray, List.set_cons_zero, List.set_cons_succ]
                first
                  | (refine wpAnyH_take (i := 6) (oi := _) (v := ?vop38) (by simp only [List.getElem?_toArray, List.getElem?_cons_succ, List.getElem?_cons_zero]; rfl) (by kernel_rfl) (by kernel_rfl) (by kernel_rfl) (by exact fun _ _ _ h => h) (Or.inl ⟨by rfl, ?hyop38⟩) (by assumption) ?restop38
                     case hyop38 => (intro w hSw; (try dsimp only at hSw); go_simp; try (with_reducible rfl)))
                  | refine wpAnyH_take (i := 6) (oi := _) (v := undef) (by simp only [List.getElem?_toArray, List.getElem?_cons_succ, List.getElem?_cons_zero]; rfl) (by kernel_rfl) (by kernel_rfl) (by kernel_rfl) (by exact fun _ _ _ h => h) (Or.inr ⟨by rfl, rfl⟩) (by assumption) ?_
                try simp only [Act.put, List.setIfInBounds_toArray, List.set_cons_zero, List.set_cons_succ]
                first
                  | (refine wpAnyH_take (i := 7) (oi := _) (v := ?vop39) (by simp only [List.getElem?_toArray, List.getElem?_cons_succ, List.getElem?_cons_zero]; rfl) (by kernel_rfl) (by kernel_rfl) (by kernel_rfl) (by exact fun _ _ _ h => h) (Or.inl ⟨by rfl, ?hyop39⟩) (by assumption) ?restop39
                     case hyop39 => (intro w hSw; (try dsimp only at hSw); go_simp; try (with_reducible rfl)))
                  | refine wpAnyH_take (i := 7) (oi := _) (v := undef) (by simp only [List.getElem?_toArray, List.getElem?_cons_succ, List.getElem?_cons_zero]; rfl) (by kernel_rfl) (by kernel_rfl) (by kernel_rfl) (by exact fun _ _ _ h => h) (Or.inr ⟨by rfl, rfl⟩) (by assumption) ?_
                try simp only [Act.put, List.setIfInBounds_toArray, List.set_cons_zero, List.set_cons_succ]
                refine wpAnyH_take (i := 8) (oi := _) (v := undef) (by simp only [List.getElem?_toArray, List.getElem?_cons_succ, List.getElem?_cons_zero]; rfl) (by kernel_rfl) (by kernel_rfl) (by kernel_rfl) (by exact fun _ _ _ h => h) (Or.inr ⟨by rfl, rfl⟩) (by assumption) ?_
                try simp only [Act.put, List.setIfInBounds_toArray, List.set_cons_zero, List.set_cons_succ]
                refine wpAnyH_take (i := 9) (oi := _) (v := undef) (by simp only [List.getElem?_toArray, List.getElem?_cons_succ, List.getElem?_cons_zero]; rfl) (by kernel_rfl) (by kernel_rfl) (by kernel_rfl) (by exact fun _ _ _ h => h) (Or.inr ⟨by rfl, rfl⟩) (by assumption) ?_
                try simp only [Act.put, List.setIfInBounds_toArray, List.set_cons_zero, List.set_cons_succ]
                refine wpAnyH_take (i := 10) (oi := _) (v := undef) (by simp only [List.getElem?_toArray, List.getElem?_cons_succ, List.getElem?_cons_zero]; rfl) (by kernel_rfl) (by kernel_rfl) (by kernel_rfl) (by exact fun _ _ _ h => h) (Or.inr ⟨by rfl, rfl⟩) (by assumption) ?_
                try simp only [Act.put, List.setIfInBounds_toArray, List.set_cons_zero, List.set_cons_succ]
                refine wpAnyH_take (i := 11) (oi := _) (v := undef) (by simp only [List.getElem?_toArray, List.getElem?_cons_succ, List.getElem?_cons_zero]; rfl) (by kernel_rfl) (by kernel_rfl) (by kernel_rfl) (by exact fun _ _ _ h => h) (Or.inr ⟨by rfl, rfl⟩) (by assumption) ?_
                try simp only [Act.put, List.setIfInBounds_toArray, List.set_cons_zero, List.set_cons_succ]
                refine wpAnyH_take (i := 12) (oi := _) (v := undef) (by simp only [List.getElem?_toArray, List.getElem?_cons_succ, List.getElem?_cons_zero]; rfl) (by kernel_rfl) (by kernel_rfl) (by kernel_rfl) (by exact fun _ _ _ h => h) (Or.inr ⟨by rfl, rfl⟩) (by assumption) ?_
                try simp only [Act.put, List.setIfInBounds_toArray, List.set_cons_zero, List.set_cons_succ]
                refine wpAnyH_take (i := 13) (oi := _) (v := undef) (by simp only [List.getElem?_toArray, List.getElem?_cons_succ, List.getElem?_cons_zero]; rfl) (by kernel_rfl) (by kernel_rfl) (by kernel_rfl) (by exact fun _ _ _ h => h) (Or.inr ⟨by rfl, rfl⟩) (by assumption) ?_
                try simp only [Act.put, List.setIfInBounds_toArray, List.set_cons_zero, List.set_cons_succ]
                refine wpAnyH_take (i := 14) (oi := _) (v := undef) (by simp only [List.getElem?_toArray, List.getElem?_cons_succ, List.getElem?_cons_zero]; rfl) (by kernel_rfl) (by kernel_rfl) (by kernel_rfl) (by exact fun _ _ _ h => h) (Or.inr ⟨by rfl, rfl⟩) (by assumption) ?_
                try simp only [Act.put, List.setIfInBounds_toArray, List.set_cons_zero, List.set_cons_succ]
                refine wpAnyH_take (i := 15) (oi := _) (v := undef) (by simp only [List.getElem?_toArray, List.getElem?_cons_succ, List.getElem?_cons_zero]; rfl) (by kernel_rfl) (by kernel_rfl) (by kernel_rfl) (by exact fun _ _ _ h => h) (Or.inr ⟨by rfl, rfl⟩) (by assumption) ?_
                try simp only [Act.put, List.setIfInBounds_toArray, List.set_cons_zero, List.set_cons_succ]
                refine wpAnyH_take (i := 16) (oi := _) (v := undef) (by simp only [List.getElem?_toArray, List.getElem?_cons_succ, List.getElem?_cons_zero]; rfl) (by kernel_rfl) (by kernel_rfl) (by kernel_rfl) (by exact fun _ _ _ h => h) (Or.inr ⟨by rfl, rfl⟩) (by assumption) ?_
                try simp only [Act.put, List.setIfInBounds_toArray, List.set_cons_zero, List.set_cons_succ]
                first
                  | (refine wpAnyH_take (i := 17) (oi := _) (v := ?vop40) (by simp only [List.getElem?_toArray, List.getElem?_cons_succ, List.getElem?_cons_zero]; rfl) (by kernel_rfl) (by kernel_rfl) (by kernel_rfl) (by exact fun _ _ _ h => h) (Or.inl ⟨by rfl, ?hyop40⟩) (by assumption) ?restop40
                     case hyop40 => (intro w hSw; (try dsimp only at hSw); go_simp; try (with_reducible rfl)))
                  | refine wpAnyH_take (i := 17) (oi := _) (v := undef) (by simp only [List.getElem?_toArray, List.getElem?_cons_succ, List.getElem?_cons_zero]; rfl) (by kernel_rfl) (by kernel_rfl) (by kernel_rfl) (by exact fun _ _ _ h => h) (Or.inr ⟨by rfl, rfl⟩) (by assumption) ?_
                try simp only [Act.put, List.setIfInBounds_toArray, List.set_cons_zero, List.set_cons_succ]
                first
                  | (refine wpAnyH_take (i := 18) (oi := _) (v := ?vop41) (by simp only [List.getElem?_toArray, List.getElem?_cons_succ, List.getElem?_cons_zero]; rfl) (by kernel_rfl) (by kernel_rfl) (by kernel_rfl) (by exact fun _ _ _ h => h) (Or.inl ⟨by rfl, ?hyop41⟩) (by assumption) ?restop41
                     case hyop41 => (intro w hSw; (try dsimp only at hSw); go_simp; try (with_reducible rfl)))
                  | refine wpAnyH_take (i := 18) (oi := _) (v := undef) (by simp only [List.getElem?_toArray, List.getElem?_cons_succ, List.getElem?_cons_zero]; rfl) (by kernel_rfl) (by kernel_rfl) (by kernel_rfl) (by exact fun _ _ _ h => h) (Or.inr ⟨by rfl, rfl⟩) (by assumption) ?_
                try simp only [Act.put, List.setIfInBounds_toArray, List.set_cons_zero, List.set_cons_succ]
                refine wpAnyH_done (by kernel_rfl) ?_ _
                go_wp2_with fail
                refine wp_region_held_drew (S := fun w' => w'.cell? ⟨w5.heap.size, 2, none⟩ = some (.int .i64 (er : Int))) (by kernel_rfl) ?_ (fun hHeld => ?_)
                · ((try dsimp only); exact t2)
                first
                  | (refine wpAnyH_take (i := 0) (oi := _) (v := ?vop42) (by simp only [List.getElem?_toArray, List.getElem?_cons_zero]; rfl) (by kernel_rfl) (by kernel_rfl) (by kernel_rfl) (by exact fun _ _ _ h => h) (Or.inl ⟨by rfl, ?hyop42⟩) (by assumption) ?restop42
                     case hyop42 => (intro w hSw; (try dsimp only at hSw); go_simp; try (with_reducible rfl)))
                  | refine wpAnyH_take (i := 0) (oi := _) (v := undef) (by simp only [List.getElem?_toArray, List.getElem?_cons_zero]; rfl) (by kernel_rfl) (by kernel_rfl) (by kernel_rfl) (by exact fun _ _ _ h => h) (Or.inr ⟨by rfl, rfl⟩) (by assumption) ?_
                try simp only [Act.put, List.setIfInBounds_toArray, List.set_cons_zero, List.set_cons_succ]
                first
                  | (refine wpAnyH_take (i := 1) (oi := _) (v := ?vop43) (by simp only [List.getElem?_toArray, List.getElem?_cons_succ, List.getElem?_cons_zero]; rfl) (by kernel_rfl) (by kernel_rfl) (by kernel_rfl) (by exact fun _ _ _ h => h) (Or.inl ⟨by rfl, ?hyop43⟩) (by assumption) ?restop43
                     case hyop43 => (intro w hSw; (try dsimp only at hSw); go_simp; try (with_reducible rfl)))
                  | refine wpAnyH_take (i := 1) (oi := _) (v := undef) (by simp only [List.getElem?_toArray, List.getElem?_cons_succ, List.getElem?_cons_zero]; rfl) (by kernel_rfl) (by kernel_rfl) (by kernel_rfl) (by exact fun _ _ _ h => h) (Or.inr ⟨by rfl, rfl⟩) (by assumption) ?_
                try simp only [Act.put, List.setIfInBounds_toArray, List.set_cons_zero, List.set_cons_succ]
                first
                  | (refine wpAnyH_take (i := 2) (oi := _) (v := ?vop44) (by simp only [List.getElem?_toArray, List.getElem?_cons_succ, List.getElem?_cons_zero]; rfl) (by kernel_rfl) (by kernel_rfl) (by kernel_rfl) (by exact fun _ _ _ h => h) (Or.inl ⟨by rfl, ?hyop44⟩) (by assumption) ?restop44
                     case hyop44 => (intro w hSw; (try dsimp only at hSw); go_simp; try (with_reducible rfl)))
                  | refine wpAnyH_take (i := 2) (oi := _) (v := undef) (by simp only [List.getElem?_toArray, List.getElem?_cons_succ, List.getElem?_cons_zero]; rfl) (by kernel_rfl) (by kernel_rfl) (by kernel_rfl) (by exact fun _ _ _ h => h) (Or.inr ⟨by rfl, rfl⟩) (by assumption) ?_
                try simp only [Act.put, List.setIfInBounds_toArray, List.set_cons_zero, List.set_cons_succ]
                first
                  | (refine wpAnyH_take (i := 3) (oi := _) (v := ?vop45) (by simp only [List.getElem?_toArray, List.getElem?_cons_succ, List.getElem?_cons_zero]; rfl) (by kernel_rfl) (by kernel_rfl) (by kernel_rfl) (by exact fun _ _ _ h => h) (Or.inl ⟨by rfl, ?hyop45⟩) (by assumption) ?restop45
                     case hyop45 => (intro w hSw; (try dsimp only at hSw); go_simp; try (with_reducible rfl)))
                  | refine wpAnyH_take (i := 3) (oi := _) (v := undef) (by simp only [List.getElem?_toArray, List.getElem?_cons_succ, List.getElem?_cons_zero]; rfl) (by kernel_rfl) (by kernel_rfl) (by kernel_rfl) (by exact fun _ _ _ h => h) (Or.inr ⟨by rfl, rfl⟩) (by assumption) ?_
                try simp only [Act.put, List.setIfInBounds_toArray, List.set_cons_zero, List.set_cons_succ]
                first
                  | (refine wpAnyH_take (i := 4) (oi := _) (v := ?vop46) (by simp only [List.getElem?_toArray, List.getElem?_cons_succ, List.getElem?_cons_zero]; rfl) (by kernel_rfl) (by kernel_rfl) (by kernel_rfl) (by exact fun _ _ _ h => h) (Or.inl ⟨by rfl, ?hyop46⟩) (by assumption) ?restop46
                     case hyop46 => (intro w hSw; (try dsimp only at hSw); go_simp; try (with_reducible rfl)))
                  | refine wpAnyH_take (i := 4) (oi := _) (v := undef) (by simp only [List.getElem?_toArray, List.getElem?_cons_succ, List.getElem?_cons_zero]; rfl) (by kernel_rfl) (by kernel_rfl) (by kernel_rfl) (by exact fun _ _ _ h => h) (Or.inr ⟨by rfl, rfl⟩) (by assumption) ?_
                try simp only [Act.put, List.setIfInBounds_toArray, List.set_cons_zero, List.set_cons_succ]
                first
                  | (refine wpAnyH_take (i := 5) (oi := _) (v := ?vop47) (by simp only [List.getElem?_toArray, List.getElem?_cons_succ, List.getElem?_cons_zero]; rfl) (by kernel_rfl) (by kernel_rfl) (by kernel_rfl) (by exact fun _ _ _ h => h) (Or.inl ⟨by rfl, ?hyop47⟩) (by assumption) ?restop47
                     case hyop47 => (intro w hSw; (try dsimp only at hSw); go_simp; try (with_reducible rfl)))
                  | refine wpAnyH_take (i := 5) (oi := _) (v := undef) (by simp only [List.getElem?_toArray, List.getElem?_cons_succ, List.getElem?_cons_zero]; rfl) (by kernel_rfl) (by kernel_rfl) (by kernel_rfl) (by exact fun _ _ _ h => h) (Or.inr ⟨by rfl, rfl⟩) (by assumption) ?_
                try simp only [Act.put, List.setIfInBounds_toArray, List.set_cons_zero, List.set_cons_succ]
                first
                  | (refine wpAnyH_take (i := 6) (oi := _) (v := ?vop48) (by simp only [List.getElem?_toArray, List.getElem?_cons_succ, List.getElem?_cons_zero]; rfl) (by kernel_rfl) (by kernel_rfl) (by kernel_rfl) (by exact fun _ _ _ h => h) (Or.inl ⟨by rfl, ?hyop48⟩) (by assumption) ?restop48
                     case hyop48 => (intro w hSw; (try dsimp only at hSw); go_simp; try (with_reducible rfl)))
                  | refine wpAnyH_take (i := 6) (oi := _) (v := undef) (by simp only [List.getElem?_toArray, List.getElem?_cons_succ, List.getElem?_cons_zero]; rfl) (by kernel_rfl) (by kernel_rfl) (by kernel_rfl) (by exact fun _ _ _ h => h) (Or.inr ⟨by rfl, rfl⟩) (by assumption) ?_
                try simp only [Act.put, List.setIfInBounds_toArray, List.set_cons_zero, List.set_cons_succ]
                first
                  | (refine wpAnyH_take (i := 7) (oi := _) (v := ?vop49) (by simp only [List.getElem?_toArray, List.getElem?_cons_succ, List.getElem?_cons_zero]; rfl) (by kernel_rfl) (by kernel_rfl) (by kernel_rfl) (by exact fun _ _ _ h => h) (Or.inl ⟨by rfl, ?hyop49⟩) (by assumption) ?restop49
                     case hyop49 => (intro w hSw; (try dsimp only at hSw); go_simp; try (with_reducible rfl)))
                  | refine wpAnyH_take (i := 7) (oi := _) (v := undef) (by simp only [List.getElem?_toArray, List.getElem?_cons_succ, List.getElem?_cons_zero]; rfl) (by kernel_rfl) (by kernel_rfl) (by kernel_rfl) (by exact fun _ _ _ h => h) (Or.inr ⟨by rfl, rfl⟩) (by assumption) ?_
                try simp only [Act.put, List.setIfInBounds_toArray, List.set_cons_zero, List.set_cons_succ]
                refine wpAnyH_take (i := 8) (oi := _) (v := undef) (by simp only [List.getElem?_toArray, List.getElem?_cons_succ, List.getElem?_cons_zero]; rfl) (by kernel_rfl) (by kernel_rfl) (by kernel_rfl) (by exact fun _ _ _ h => h) (Or.inr ⟨by rfl, rfl⟩) (by assumption) ?_
                try simp only [Act.put, List.setIfInBounds_toArray, List.set_cons_zero, List.set_cons_succ]
                refine wpAnyH_take (i := 9) (oi := _) (v := undef) (by simp only [List.getElem?_toArray, List.getElem?_cons_succ, List.getElem?_cons_zero]; rfl) (by kernel_rfl) (by kernel_rfl) (by kernel_rfl) (by exact fun _ _ _ h => h) (Or.inr ⟨by rfl, rfl⟩) (by assumption) ?_
                try simp only [Act.put, List.setIfInBounds_toArray, List.set_cons_zero, List.set_cons_succ]
                refine wpAnyH_take (i := 10) (oi := _) (v := undef) (by simp only [List.getElem?_toArray, List.getElem?_cons_succ, List.getElem?_cons_zero]; rfl) (by kernel_rfl) (by kernel_rfl) (by kernel_rfl) (by exact fun _ _ _ h => h) (Or.inr ⟨by rfl, rfl⟩) (by assumption) ?_
                try simp only [Act.put, List.setIfInBounds_toArray, List.set_cons_zero, List.set_cons_succ]
                refine wpAnyH_take (i := 11) (oi := _) (v := undef) (by simp only [List.getElem?_toArray, List.getElem?_cons_succ, List.getElem?_cons_zero]; rfl) (by kernel_rfl) (by kernel_rfl) (by kernel_rfl) (by exact fun _ _ _ h => h) (Or.inr ⟨by rfl, rfl⟩) (by assumption) ?_
                try simp only [Act.put, List.setIfInBounds_toArray, List.set_cons_zero, List.set_cons_succ]
                refine wpAnyH_take (i := 12) (oi := _) (v := undef) (by simp only [List.getElem?_toArray, List.getElem?_cons_succ, List.getElem?_cons_zero]; rfl) (by kernel_rfl) (by kernel_rfl) (by kernel_rfl) (by exact fun _ _ _ h => h) (Or.inr ⟨by rfl, rfl⟩) (by assumption) ?_
                try simp only [Act.put, List.setIfInBounds_toArray, List.set_cons_zero, List.set_cons_succ]
                refine wpAnyH_take (i := 13) (oi := _) (v := undef) (by simp only [List.getElem?_toArray, List.getElem?_cons_succ, List.getElem?_cons_zero]; rfl) (by kernel_rfl) (by kernel_rfl) (by kernel_rfl) (by exact fun _ _ _ h => h) (Or.inr ⟨by rfl, rfl⟩) (by assumption) ?_
                try simp only [Act.put, List.setIfInBounds_toArray, List.set_cons_zero, List.set_cons_succ]
                refine wpAnyH_take (i := 14) (oi := _) (v := undef) (by simp only [List.getElem?_toArray, List.getElem?_cons_succ, List.getElem?_cons_zero]; rfl) (by kernel_rfl) (by kernel_rfl) (by kernel_rfl) (by exact fun _ _ _ h => h) (Or.inr ⟨by rfl, rfl⟩) (by assumption) ?_
                try simp only [Act.put, List.setIfInBounds_toArray, List.set_cons_zero, List.set_cons_succ]
                refine wpAnyH_take (i := 15) (oi := _) (v := undef) (by simp only [List.getElem?_toArray, List.getElem?_cons_succ, List.getElem?_cons_zero]; rfl) (by kernel_rfl) (by kernel_rfl) (by kernel_rfl) (by exact fun _ _ _ h => h) (Or.inr ⟨by rfl, rfl⟩) (by assumption) ?_
                try simp only [Act.put, List.setIfInBounds_toArray, List.set_cons_zero, List.set_cons_succ]
                refine wpAnyH_take (i := 16) (oi := _) (v := undef) (by simp only [List.getElem?_toArray, List.getElem?_cons_succ, List.getElem?_cons_zero]; rfl) (by kernel_rfl) (by kernel_rfl) (by kernel_rfl) (by exact fun _ _ _ h => h) (Or.inr ⟨by rfl, rfl⟩) (by assumption) ?_
                try simp only [Act.put, List.setIfInBounds_toArray, List.set_cons_zero, List.set_cons_succ]
                refine wpAnyH_take (i := 17) (oi := _) (v := undef) (by simp only [List.getElem?_toArray, List.getElem?_cons_succ, List.getElem?_cons_zero]; rfl) (by kernel_rfl) (by kernel_rfl) (by kernel_rfl) (by exact fun _ _ _ h => h) (Or.inr ⟨by rfl, rfl⟩) (by assumption) ?_
                try simp only [Act.put, List.setIfInBounds_toArray, List.set_cons_zero, List.set_cons_succ]
                refine wpAnyH_take (i := 18) (oi := _) (v := undef) (by simp only [List.getElem?_toArray, List.getElem?_cons_succ, List.getElem?_cons_zero]; rfl) (by kernel_rfl) (by kernel_rfl) (by kernel_rfl) (by exact fun _ _ _ h => h) (Or.inr ⟨by rfl, rfl⟩) (by assumption) ?_
                try simp only [Act.put, List.setIfInBounds_toArray, List.set_cons_zero, List.set_cons_succ]
                refine wpAnyH_take (i := 19) (oi := _) (v := undef) (by simp only [List.getElem?_toArray, List.getElem?_cons_succ, List.getElem?_cons_zero]; rfl) (by kernel_rfl) (by kernel_rfl) (by kernel_rfl) (by exact fun _ _ _ h => h) (Or.inr ⟨by rfl, rfl⟩) (by assumption) ?_
                try simp only [Act.put, List.setIfInBounds_toArray, List.set_cons_zero, List.set_cons_succ]
                refine wpAnyH_take (i := 20) (oi := _) (v := undef) (by simp only [List.getElem?_toArray, List.getElem?_cons_succ, List.getElem?_cons_zero]; rfl) (by kernel_rfl) (by kernel_rfl) (by kernel_rfl) (by exact fun _ _ _ h => h) (Or.inr ⟨by rfl, rfl⟩) (by assumption) ?_
                try simp only [Act.put, List.setIfInBounds_toArray, List.set_cons_zero, List.set_cons_succ]
                first
                  | (refine wpAnyH_take (i := 21) (oi := _) (v := ?vop50) (by simp only [List.getElem?_toArray, List.getElem?_cons_succ, List.getElem?_cons_zero]; rfl) (by kernel_rfl) (by kernel_rfl) (by kernel_rfl) (by exact fun _ _ _ h => h) (Or.inl ⟨by rfl, ?hyop50⟩) (by assumption) ?restop50
                     case hyop50 => (intro w hSw; (try dsimp only at hSw); go_simp; try (with_reducible rfl)))
                  | refine wpAnyH_take (i := 21) (oi := _) (v := undef) (by simp only [List.getElem?_toArray, List.getElem?_cons_succ, List.getElem?_cons_zero]; rfl) (by kernel_rfl) (by kernel_rfl) (by kernel_rfl) (by exact fun _ _ _ h => h) (Or.inr ⟨by rfl, rfl⟩) (by assumption) ?_
                try simp only [Act.put, List.setIfInBounds_toArray, List.set_cons_zero, List.set_cons_succ]
                first
                  | (refine wpAnyH_take (i := 22) (oi := _) (v := ?vop51) (by simp only [List.getElem?_toArray, List.getElem?_cons_succ, List.getElem?_cons_zero]; rfl) (by kernel_rfl) (by kernel_rfl) (by kernel_rfl) (by exact fun _ _ _ h => h) (Or.inl ⟨by rfl, ?hyop51⟩) (by assumption) ?restop51
                     case hyop51 => (intro w hSw; (try dsimp only at hSw); go_simp; try (with_reducible rfl)))
                  | refine wpAnyH_take (i := 22) (oi := _) (v := undef) (by simp only [List.getElem?_toArray, List.getElem?_cons_succ, List.getElem?_cons_zero]; rfl) (by kernel_rfl) (by kernel_rfl) (by kernel_rfl) (by exact fun _ _ _ h => h) (Or.inr ⟨by rfl, rfl⟩) (by assumption) ?_
                try simp only [Act.put, List.setIfInBounds_toArray, List.set_cons_zero, List.set_cons_succ]
                refine wpAnyH_done (by kernel_rfl) ?_ _
                go_wp2
                go_roundw
                case rel => exact ⟨k + 1, m + 1, B, O5, by omega, by go_num, by omega, by omega, HPX.out.ext (by first | exact gr_drewN _ _ _ | exact gr_none (gr_drew _ _) (gr_drew _ _)), HB6.out.ext (by first | exact gr_drewN _ _ _ | exact gr_none (gr_drew _ _) (gr_drew _ _))⟩
                case measure => simp [intOf] <;> omega
          · obtain ⟨e1, e3, -, e2⟩ := stepF_eq HST.out
            have e1' : F8 = (aWrite (B.map Bk.fz) nm i b).1 := e1
            have e2' : er = (aWrite (B.map Bk.fz) nm i b).2 := e2
            have t2 : w6.cell? ⟨w5.heap.size, 2, none⟩ = some (.int .i64 (er : Int)) := hcell7 2
            have o2 : w6.cell? ⟨wr.heap.size, 2, none⟩ = some (.int .i64 i) := hcell6 2
            have hi64 := HOK.out
            have o3 : w6.cell? ⟨wr.heap.size, 3, none⟩ = some (.slice Ab b.length cb) := hcell6 3
            rcases write_cases HWF.out HIX.out i b with ⟨j, ez, hj, hcs⟩ | ⟨ez, E, hE, ec⟩
            · obtain ⟨gl, offl, hAl, hcapl, hcelll⟩ := RdG.at_ bk2 (OwnG.rd HB6.out.own)
              obtain rfl := hAl (by omega)
              have q1 := hcelll j hj 1 (by omega)
              have hbk := HB6.out.ok B[j] (List.getElem_mem hj)
              obtain ⟨⟨pn, ps, pL⟩, hx⟩ : ∃ x, x = B[j] := ⟨_, rfl⟩
              rw [← hx] at q1 hbk hcs
              dsimp only at hcs
              obtain ⟨Ap, cp, rfl⟩ : ∃ Ap cp, ps = .slice Ap pL.length cp := by obtain ⟨_, A, c, _, _, e, _⟩ := hbk.rd; exact ⟨A, c, e⟩
              have l1 : w6.cell? ⟨gl, offl + j * 2 + 1, none⟩ = some (.slice Ap pL.length cp) := q1
              have hpr0 : Rd w6 1 (.slice Ap pL.length cp) pL.length (pL.map Prod.fst) := hbk.rd
              have hpg0 : ∀ y ∈ pL, RdB w1 y.1 y.2 := hbk.pg
              subst ez
              have hj0 : (0 : Int) ≤ (j : Int) := by omega
              have hjl : (j : Int) < (B.length : Int) := by omega
              rcases hcs with ⟨E, hE, hi, ec⟩ | ⟨K, ek, hK, hb240, ec0, ec⟩
              · rw [ec] at e1' e2'
                have HPX : Hid (PF w1 d p O5 (B.map Bk.fz) [] (m + 1) w6) := by have := HP6.out; rw [e1'] at this; exact this
                have e2n : er = E := e2'
                have her : ((er : Int) == 0) = false := by rw [e2n, beq_eq_false_iff_ne]; omega
                rcases hi with hi | ⟨hi0, hi⟩ | ⟨hi0, hi, hb9⟩
                · as_aux_lemma =>
                    have hi0 : ¬ (0 : Int) ≤ i := by omega
                    have hi1 : decide ((0 : Int) ≤ i) = false := by simpa using hi0
                    clear hi e1 e2 e3 e1' e2' e2n ec hE hpr0 hbk hpg0 q1 hx hcelll HIX HST HP6
                    go_wp2_with fail
                    refine wp_region_held_drew (S := fun w' => w'.cell? ⟨wr.heap.size, 2, none⟩ = some (.int .i64 i)) (by kernel_rfl) ?_ (fun hHeld => ?_)
                    · ((try dsimp only); exact o2)
                    first
                      | (refine wpAnyH_take (i := 0) (oi := _) (v := ?vop52) (by simp only [List.getElem?_toArray, List.getElem?_cons_zero]; rfl) (by kernel_rfl) (by kernel_rfl) (by kernel_rfl) (by exact fun _ _ _ h => h) (Or.inl ⟨by rfl, ?hyop52⟩) (by assumption) ?restop52
                         case hyop52 => (intro w hSw; (try dsimp only at hSw); go_simp; try (with_reducible rfl)))
                      | refine wpAnyH_take (i := 0) (oi := _) (v := undef) (by simp only [List.getElem?_toArray, List.getElem?_cons_zero]; rfl) (by kernel_rfl) (by kernel_rfl) (by kernel_rfl) (by exact fun _ _ _ h => h) (Or.inr ⟨by rfl, rfl⟩) (by assumption) ?_
                    try simp only [Act.put, List.setIfInBounds_toArray, List.set_cons_zero, List.set_cons_succ]
                    first
                      | (refine wpAnyH_take (i := 1) (oi := _) (v := ?vop53) (by simp only [List.getElem?_toArray, List.getElem?_cons_succ, List.getElem?_cons_zero]; rfl) (by kernel_rfl) (by kernel_rfl) (by kernel_rfl) (by exact fun _ _ _ h => h) (Or.inl ⟨by rfl, ?hyop53⟩) (by assumption) ?restop53
                         case hyop53 => (intro w hSw; (try dsimp only at hSw); go_simp; try (with_reducible rfl)))
                      | refine wpAnyH_take (i := 1) (oi := _) (v := undef) (by simp only [List.getElem?_toArray, List.getElem?_cons_succ, List.getElem?_cons_zero]; rfl) (by kernel_rfl) (by kernel_rfl) (by kernel_rfl) (by exact fun _ _ _ h => h) (Or.inr ⟨by rfl, rfl⟩) (by assumption) ?_
                    try simp only [Act.put, List.setIfInBounds_toArray, List.set_cons_zero, List.set_cons_succ]
                    first
                      | (refine wpAnyH_take (i := 2) (oi := _) (v := ?vop54) (by simp only [List.getElem?_toArray, List.getElem?_cons_succ, List.getElem?_cons_zero]; rfl) (by kernel_rfl) (by kernel_rfl) (by kernel_rfl) (by exact fun _ _ _ h => h) (Or.inl ⟨by rfl, ?hyop54⟩) (by assumption) ?restop54
                         case hyop54 => (intro w hSw; (try dsimp only at hSw); go_simp; try (with_reducible rfl)))
                      | refine wpAnyH_take (i := 2) (oi := _) (v := undef) (by simp only [List.getElem?_toArray, List.getElem?_cons_succ, List.getElem?_cons_zero]; rfl) (by kernel_rfl) (by kernel_rfl) (by kernel_rfl) (by exact fun _ _ _ h => h) (Or.inr ⟨by rfl, rfl⟩) (by assumption) ?_
                    try simp only [Act.put, List.setIfInBounds_toArray, List.set_cons_zero, List.set_cons_succ]
                    first
                      | (refine wpAnyH_take (i := 3) (oi := _) (v := ?vop55) (by simp only [List.getElem?_toArray, List.getElem?_cons_succ, List.getElem?_cons_zero]; rfl) (by kernel_rfl) (by kernel_rfl) (by kernel_rfl) (by exact fun _ _ _ h => h) (Or.inl ⟨by rfl, ?hyop55⟩) (by assumption) ?restop55
                         case hyop55 => (intro w hSw; (try dsimp only at hSw); go_simp; try (with_reducible rfl)))
                      | refine wpAnyH_take (i := 3) (oi := _) (v := undef) (by simp only [List.getElem?_toArray, List.getElem?_cons_succ, List.getElem?_cons_zero]; rfl) (by kernel_rfl) (by kernel_rfl) (by kernel_rfl) (by exact fun _ _ _ h => h) (Or.inr ⟨by rfl, rfl⟩) (by assumption) ?_
                    try simp only [Act.put, List.setIfInBounds_toArray, List.set_cons_zero, List.set_cons_succ]
                    first
                      | (refine wpAnyH_take (i := 4) (oi := _) (v := ?vop56) (by simp only [List.getElem?_toArray, List.getElem?_cons_succ, List.getElem?_cons_zero]; rfl) (by kernel_rfl) (by kernel_rfl) (by kernel_rfl) (by exact fun _ _ _ h => h) (Or.inl ⟨by rfl, ?hyop56⟩) (by assumption) ?restop56
                         case hyop56 => (intro w hSw; (try dsimp only at hSw); go_simp; try (with_reducible rfl)))
                      | refine wpAnyH_take (i := 4) (oi := _) (v := undef) (by simp only [List.getElem?_toArray, List.getElem?_cons_succ, List.getElem?_cons_zero]; rfl) (by kernel_rfl) (by kernel_rfl) (by kernel_rfl) (by exact fun _ _ _ h => h) (Or.inr ⟨by rfl, rfl⟩) (by assumption) ?_
                    try simp only [Act.put, List.setIfInBounds_toArray, List.set_cons_zero, List.set_cons_succ]
                    first
                      | (refine wpAnyH_take (i := 5) (oi := _) (v := ?vop57) (by simp only [List.getElem?_toArray, List.getElem?_cons_succ, List.getElem?_cons_zero]; rfl) (by kernel_rfl) (by kernel_rfl) (by kernel_rfl) (by exact fun _ _ _ h => h) (Or.inl ⟨by rfl, ?hyop57⟩) (by assumption) ?restop57
                         case hyop57 => (intro w hSw; (try dsimp only at hSw); go_simp; try (with_reducible rfl)))
                      | refine wpAnyH_take (i := 5) (oi := _) (v := undef) (by simp only [List.getElem?_toArray, List.getElem?_cons_succ, List.getElem?_cons_zero]; rfl) (by kernel_rfl) (by kernel_rfl) (by kernel_rfl) (by exact fun _ _ _ h => h) (Or.inr ⟨by rfl, rfl⟩) (by assumption) ?_
                    try simp only [Act.put, List.setIfInBounds_toArray, List.set_cons_zero, List.set_cons_succ]
                    first
                      | (refine wpAnyH_take (i := 6) (oi := _) (v := ?vop58) (by simp only [List.getElem?_toArray, List.getElem?_cons_succ, List.getElem?_cons_zero]; rfl) (by kernel_rfl) (by kernel_rfl) (by kernel_rfl) (by exact fun _ _ _ h => h) (Or.inl ⟨by rfl, ?hyop58⟩) (by assumption) ?restop58
                         case hyop58 => (intro w hSw; (try dsimp only at hSw); go_simp; try (with_reducible rfl)))
                      | refine wpAnyH_take (i := 6) (oi := _) (v := undef) (by simp only [List.getElem?_toArray, List.getElem?_cons_succ, List.getElem?_cons_zero]; rfl) (by kernel_rfl) (by kernel_rfl) (by kernel_rfl) (by exact fun _ _ _ h => h) (Or.inr ⟨by rfl, rfl⟩) (by assumption) ?_
                    try simp only [Act.put, List.setIfInBounds_toArray, List.set_cons_zero, List.set_cons_succ]
                    first
                      | (refine wpAnyH_take (i := 7) (oi := _) (v := ?vop59) (by simp only [List.getElem?_toArray, List.getElem?_cons_succ, List.getElem?_cons_zero]; rfl) (by kernel_rfl) (by kernel_rfl) (by kernel_rfl) (by exact fun _ _ _ h => h) (Or.inl ⟨by rfl, ?hyop59⟩) (by assumption) ?restop59
                         case hyop59 => (intro w hSw; (try dsimp only at hSw); go_simp; try (with_reducible rfl)))
                      | refine wpAnyH_take (i := 7) (oi := _) (v := undef) (by simp only [List.getElem?_toArray, List.getElem?_cons_succ, List.getElem?_cons_zero]; rfl) (by kernel_rfl) (by kernel_rfl) (by kernel_rfl) (by exact fun _ _ _ h => h) (Or.inr ⟨by rfl, rfl⟩) (by assumption) ?_
                    try simp only [Act.put, List.setIfInBounds_toArray, List.set_cons_zero, List.set_cons_succ]
                    refine wpAnyH_take (i := 8) (oi := _) (v := undef) (by simp only [List.getElem?_toArray, List.getElem?_cons_succ, List.getElem?_cons_zero]; rfl) (by kernel_rfl) (by kernel_rfl) (by kernel_rfl) (by exact fun _ _ _ h => h) (Or.inr ⟨by rfl, rfl⟩) (by assumption) ?_
                    try simp only [Act.put, List.setIfInBounds_toArray, List.set_cons_zero, List.set_cons_succ]
                    refine wpAnyH_take (i := 9) (oi := _) (v := undef) (by simp only [List.getElem?_toArray, List.getElem?_cons_succ, List.getElem?_cons_zero]; rfl) (by kernel_rfl) (by kernel_rfl) (by kernel_rfl) (by exact fun _ _ _ h => h) (Or.inr ⟨by rfl, rfl⟩) (by assumption) ?_
                    try simp only [Act.put, List.setIfInBounds_toArray, List.set_cons_zero, List.set_cons_succ]
                    refine wpAnyH_take (i := 10) (oi := _) (v := undef) (by simp only [List.getElem?_toArray, List.getElem?_cons_succ, List.getElem?_cons_zero]; rfl) (by kernel_rfl) (by kernel_rfl) (by kernel_rfl) (by exact fun _ _ _ h => h) (Or.inr ⟨by rfl, rfl⟩) (by assumption) ?_
                    try simp only [Act.put, List.setIfInBounds_toArray, List.set_cons_zero, List.set_cons_succ]
                    refine wpAnyH_take (i := 11) (oi := _) (v := undef) (by simp only [List.getElem?_toArray, List.getElem?_cons_succ, List.getElem?_cons_zero]; rfl) (by kernel_rfl) (by kernel_rfl) (by kernel_rfl) (by exact fun _ _ _ h => h) (Or.inr ⟨by rfl, rfl⟩) (by assumption) ?_
                    try simp only [Act.put, List.setIfInBounds_toArray, List.set_cons_zero, List.set_cons_succ]
                    refine wpAnyH_take (i := 12) (oi := _) (v := undef) (by simp only [List.getElem?_toArray, List.getElem?_cons_succ, List.getElem?_cons_zero]; rfl) (by kernel_rfl) (by kernel_rfl) (by kernel_rfl) (by exact fun _ _ _ h => h) (Or.inr ⟨by rfl, rfl⟩) (by assumption) ?_
                    try simp only [Act.put, List.setIfInBounds_toArray, List.set_cons_zero, List.set_cons_succ]
                    refine wpAnyH_take (i := 13) (oi := _) (v := undef) (by simp only [List.getElem?_toArray, List.getElem?_cons_succ, List.getElem?_cons_zero]; rfl) (by kernel_rfl) (by kernel_rfl) (by kernel_rfl) (by exact fun _ _ _ h => h) (Or.inr ⟨by rfl, rfl⟩) (by assumption) ?_
                    try simp only [Act.put, List.setIfInBounds_toArray, List.set_cons_zero, List.set_cons_succ]
                    refine wpAnyH_take (i := 14) (oi := _) (v := undef) (by simp only [List.getElem?_toArray, List.getElem?_cons_succ, List.getElem?_cons_zero]; rfl) (by kernel_rfl) (by kernel_rfl) (by kernel_rfl) (by exact fun _ _ _ h => h) (Or.inr ⟨by rfl, rfl⟩) (by assumption) ?_
                    try simp only [Act.put, List.setIfInBounds_toArray, List.set_cons_zero, List.set_cons_succ]
                    refine wpAnyH_take (i := 15) (oi := _) (v := undef) (by simp only [List.getElem?_toArray, List.getElem?_cons_succ, List.getElem?_cons_zero]; rfl) (by kernel_rfl) (by kernel_rfl) (by kernel_rfl) (by exact fun _ _ _ h => h) (Or.inr ⟨by rfl, rfl⟩) (by assumption) ?_
                    try simp only [Act.put, List.setIfInBounds_toArray, List.set_cons_zero, List.set_cons_succ]
                    refine wpAnyH_take (i := 16) (oi := _) (v := undef) (by simp only [List.getElem?_toArray, List.getElem?_cons_succ, List.getElem?_cons_zero]; rfl) (by kernel_rfl) (by kernel_rfl) (by kernel_rfl) (by exact fun _ _ _ h => h) (Or.inr ⟨by rfl, rfl⟩) (by assumption) ?_
                    try simp only [Act.put, List.setIfInBounds_toArray, List.set_cons_zero, List.set_cons_succ]
                    first
                      | (refine wpAnyH_take (i := 17) (oi := _) (v := ?vop60) (by simp only [List.getElem?_toArray, List.getElem?_cons_succ, List.getElem?_cons_zero]; rfl) (by kernel_rfl) (by kernel_rfl) (by kernel_rfl) (by exact fun _ _ _ h => h) (Or.inl ⟨by rfl, ?hyop60⟩) (by assumption) ?restop60
                         case hyop60 => (intro w hSw; (try dsimp only at hSw); go_simp; try (with_reducible rfl)))
                      | refine wpAnyH_take (i := 17) (oi := _) (v := undef) (by simp only [List.getElem?_toArray, List.getElem?_cons_succ, List.getElem?_cons_zero]; rfl) (by kernel_rfl) (by kernel_rfl) (by kernel_rfl) (by exact fun _ _ _ h => h) (Or.inr ⟨by rfl, rfl⟩) (by assumption) ?_
                    try simp only [Act.put, List.setIfInBounds_toArray, List.set_cons_zero, List.set_cons_succ]
                    first
                      | (refine wpAnyH_take (i := 18) (oi := _) (v := ?vop61) (by simp only [List.getElem?_toArray, List.getElem?_cons_succ, List.getElem?_cons_zero]; rfl) (by kernel_rfl) (by kernel_rfl) (by kernel_rfl) (by exact fun _ _ _ h => h) (Or.inl ⟨by rfl, ?hyop61⟩) (by assumption) ?restop61
                         case hyop61 => (intro w hSw; (try dsimp only at hSw); go_simp; try (with_reducible rfl)))
                      | refine wpAnyH_take (i := 18) (oi := _) (v := undef) (by simp only [List.getElem?_toArray, List.getElem?_cons_succ, List.getElem?_cons_zero]; rfl) (by kernel_rfl) (by kernel_rfl) (by kernel_rfl) (by exact fun _ _ _ h => h) (Or.inr ⟨by rfl, rfl⟩) (by assumption) ?_
                    try simp only [Act.put, List.setIfInBounds_toArray, List.set_cons_zero, List.set_cons_succ]
                    refine wpAnyH_take (i := 19) (oi := _) (v := undef) (by simp only [List.getElem?_toArray, List.getElem?_cons_succ, List.getElem?_cons_zero]; rfl) (by kernel_rfl) (by kernel_rfl) (by kernel_rfl) (by exact fun _ _ _ h => h) (Or.inr ⟨by rfl, rfl⟩) (by assumption) ?_
                    try simp only [Act.put, List.setIfInBounds_toArray, List.set_cons_zero, List.set_cons_succ]
                    refine wpAnyH_take (i := 20) (oi := _) (v := undef) (by simp only [List.getElem?_toArray, List.getElem?_cons_succ, List.getElem?_cons_zero]; rfl) (by kernel_rfl) (by kernel_rfl) (by kernel_rfl) (by exact fun _ _ _ h => h) (Or.inr ⟨by rfl, rfl⟩) (by assumption) ?_
                    try simp only [Act.put, List.setIfInBounds_toArray, List.set_cons_zero, List.set_cons_succ]
                    refine wpAnyH_take (i := 21) (oi := _) (v := undef) (by simp only [List.getElem?_toArray, List.getElem?_cons_succ, List.getElem?_cons_zero]; rfl) (by kernel_rfl) (by kernel_rfl) (by kernel_rfl) (by exact fun _ _ _ h => h) (Or.inr ⟨by rfl, rfl⟩) (by assumption) ?_
                    try simp only [Act.put, List.setIfInBounds_toArray, List.set_cons_zero, List.set_cons_succ]
                    refine wpAnyH_take (i := 22) (oi := _) (v := undef) (by simp only [List.getElem?_toArray, List.getElem?_cons_succ, List.getElem?_cons_zero]; rfl) (by kernel_rfl) (by kernel_rfl) (by kernel_rfl) (by exact fun _ _ _ h => h) (Or.inr ⟨by rfl, rfl⟩) (by assumption) ?_
                    try simp only [Act.put, List.setIfInBounds_toArray, List.set_cons_zero, List.set_cons_succ]
                    first
                      | (refine wpAnyH_take (i := 23) (oi := _) (v := ?vop62) (by simp only [List.getElem?_toArray, List.getElem?_cons_succ, List.getElem?_cons_zero]; rfl) (by kernel_rfl) (by kernel_rfl) (by kernel_rfl) (by exact fun _ _ _ h => h) (Or.inl ⟨by rfl, ?hyop62⟩) (by assumption) ?restop62
                         case hyop62 => (intro w hSw; (try dsimp only at hSw); go_simp; try (with_reducible rfl)))
                      | refine wpAnyH_take (i := 23) (oi := _) (v := undef) (by simp only [List.getElem?_toArray, List.getElem?_cons_succ, List.getElem?_cons_zero]; rfl) (by kernel_rfl) (by kernel_rfl) (by kernel_rfl) (by exact fun _ _ _ h => h) (Or.inr ⟨by rfl, rfl⟩) (by assumption) ?_
                    try simp only [Act.put, List.setIfInBounds_toArray, List.set_cons_zero, List.set_cons_succ]
                    first
                      | (refine wpAnyH_take (i := 24) (oi := _) (v := ?vop63) (by simp only [List.getElem?_toArray, List.getElem?_cons_succ, List.getElem?_cons_zero]; rfl) (by kernel_rfl) (by kernel_rfl) (by kernel_rfl) (by exact fun _ _ _ h => h) (Or.inl ⟨by rfl, ?hyop63⟩) (by assumption) ?restop63
                         case hyop63 => (intro w hSw; (try dsimp only at hSw); go_simp; try (with_reducible rfl)))
                      | refine wpAnyH_take (i := 24) (oi := _) (v := undef) (by simp only [List.getElem?_toArray, List.getElem?_cons_succ, List.getElem?_cons_zero]; rfl) (by kernel_rfl) (by kernel_rfl) (by kernel_rfl) (by exact fun _ _ _ h => h) (Or.inr ⟨by rfl, rfl⟩) (by assumption) ?_
                    try simp only [Act.put, List.setIfInBounds_toArray, List.set_cons_zero, List.set_cons_succ]
                    refine wpAnyH_done (by kernel_rfl) ?_ _
                    go_wp2
                    go_roundw
                    case rel => exact ⟨k + 1, m + 1, B, O5, by omega, by go_num, by omega, by omega, HPX.out.ext (by  first | exact gr_drewN _ _ _ | exact gr_none (gr_drew _ _) (gr_drew _ _) | exact gr_drew _ _), HB6.out.ext (by  first | exact gr_drewN _ _ _ | exact gr_none (gr_drew _ _) (gr_drew _ _) | exact gr_drew _ _)⟩
                    case measure => simp [intOf] <;> omega
                · as_aux_lemma =>
                    have hi2 : ¬ i ≤ (pL.length : Int) := by omega
                    have hi3 : decide (i ≤ (pL.length : Int)) = false := by simpa using hi2
                    clear hi e1 e2 e3 e1' e2' e2n ec hE hpr0 hbk hpg0 q1 hx hcelll HIX HST HP6
                    go_wp2_with fail
                    refine wp_region_held_drew (S := fun w' => w'.cell? ⟨wr.heap.size, 2, none⟩ = some (.int .i64 i) ∧ w'.cell? ⟨gl, offl + j * 2 + 1, none⟩ = some (.slice Ap pL.length cp)) (by kernel_rfl) ?_ (fun hHeld => ?_)
                    · ((try dsimp only); exact ⟨o2, l1⟩)
                    first
                      | (refine wpAnyH_take (i := 0) (oi := _) (v := ?vop64) (by simp only [List.getElem?_toArray, List.getElem?_cons_zero]; rfl) (by kernel_rfl) (by kernel_rfl) (by kernel_rfl) (by exact fun _ _ _ h => h) (Or.inl ⟨by rfl, ?hyop64⟩) (by assumption) ?restop64
                         case hyop64 => (intro w hSw; (try dsimp only at hSw); go_simp; try (with_reducible rfl)))
                      | refine wpAnyH_take (i := 0) (oi := _) (v := undef) (by simp only [List.getElem?_toArray, List.getElem?_cons_zero]; rfl) (by kernel_rfl) (by kernel_rfl) (by kernel_rfl) (by exact fun _ _ _ h => h) (Or.inr ⟨by rfl, rfl⟩) (by assumption) ?_
                    try simp only [Act.put, List.setIfInBounds_toArray, List.set_cons_zero, List.set_cons_succ]
                    first
                      | (refine wpAnyH_take (i := 1) (oi := _) (v := ?vop65) (by simp only [List.getElem?_toArray, List.getElem?_cons_succ, List.getElem?_cons_zero]; rfl) (by kernel_rfl) (by kernel_rfl) (by kernel_rfl) (by exact fun _ _ _ h => h) (Or.inl ⟨by rfl, ?hyop65⟩) (by assumption) ?restop65
                         case hyop65 => (intro w hSw; (try dsimp only at hSw); go_simp; try (with_reducible rfl)))
                      | refine wpAnyH_take (i := 1) (oi := _) (v := undef) (by simp only [List.getElem?_toArray, List.getElem?_cons_succ, List.getElem?_cons_zero]; rfl) (by kernel_rfl) (by kernel_rfl) (by kernel_rfl) (by exact fun _ _ _ h => h) (Or.inr ⟨by rfl, rfl⟩) (by assumption) ?_
                    try simp only [Act.put, List.setIfInBounds_toArray, List.set_cons_zero, List.set_cons_succ]
                    first
                      | (refine wpAnyH_take (i := 2) (oi := _) (v := ?vop66) (by simp only [List.getElem?_toArray, List.getElem?_cons_succ, List.getElem?_cons_zero]; rfl) (by kernel_rfl) (by kernel_rfl) (by kernel_rfl) (by exact fun _ _ _ h => h) (Or.inl ⟨by rfl, ?hyop66⟩) (by assumption) ?restop66
                         case hyop66 => (intro w hSw; (try dsimp only at hSw); go_simp; try (with_reducible rfl)))
                      | refine wpAnyH_take (i := 2) (oi := _) (v := undef) (by simp only [List.getElem?_toArray, List.getElem?_cons_succ, List.getElem?_cons_zero]; rfl) (by kernel_rfl) (by kernel_rfl) (by kernel_rfl) (by exact fun _ _ _ h => h) (Or.inr ⟨by rfl, rfl⟩) (by assumption) ?_
                    try simp only [Act.put, List.setIfInBounds_toArray, List.set_cons_zero, List.set_cons_succ]
                    first
                      | (refine wpAnyH_take (i := 3) (oi := _) (v := ?vop67) (by simp only [List.getElem?_toArray, List.getElem?_cons_succ, List.getElem?_cons_zero]; rfl) (by kernel_rfl) (by kernel_rfl) (by kernel_rfl) (by exact fun _ _ _ h => h) (Or.inl ⟨by rfl, ?hyop67⟩) (by assumption) ?restop67
                         case hyop67 => (intro w hSw; (try dsimp only at hSw); go_simp; try (with_reducible rfl)))
                      | refine wpAnyH_take (i := 3) (oi := _) (v := undef) (by simp only [List.getElem?_toArray, List.getElem?_cons_succ, List.getElem?_cons_zero]; rfl) (by kernel_rfl) (by kernel_rfl) (by kernel_rfl) (by exact fun _ _ _ h => h) (Or.inr ⟨by rfl, rfl⟩) (by assumption) ?_
                    try simp only [Act.put, List.setIfInBounds_toArray, List.set_cons_zero, List.set_cons_succ]
                    first
                      | (refine wpAnyH_take (i := 4) (oi := _) (v := ?vop68) (by simp only [List.getElem?_toArray, List.getElem?_cons_succ, List.getElem?_cons_zero]; rfl) (by kernel_rfl) (by kernel_rfl) (by kernel_rfl) (by exact fun _ _ _ h => h) (Or.inl ⟨by rfl, ?hyop68⟩) (by assumption) ?restop68
                         case hyop68 => (intro w hSw; (try dsimp only at hSw); go_simp; try (with_reducible rfl)))
                      | refine wpAnyH_take (i := 4) (oi := _) (v := undef) (by simp only [List.getElem?_toArray, List.getElem?_cons_succ, List.getElem?_cons_zero]; rfl) (by kernel_rfl) (by kernel_rfl) (by kernel_rfl) (by exact fun _ _ _ h => h) (Or.inr ⟨by rfl, rfl⟩) (by assumption) ?_
                    try simp only [Act.put, List.setIfInBounds_toArray, List.set_cons_zero, List.set_cons_succ]
                    first
                      | (refine wpAnyH_take (i := 5) (oi := _) (v := ?vop69) (by simp only [List.getElem?_toArray, List.getElem?_cons_succ, List.getElem?_cons_zero]; rfl) (by kernel_rfl) (by kernel_rfl) (by kernel_rfl) (by exact fun _ _ _ h => h) (Or.inl ⟨by rfl, ?hyop69⟩) (by assumption) ?restop69
                         case hyop69 => (intro w hSw; (try dsimp only at hSw); go_simp; try (with_reducible rfl)))
                      | refine wpAnyH_take (i := 5) (oi := _) (v := undef) (by simp only [List.getElem?_toArray, List.getElem?_cons_succ, List.getElem?_cons_zero]; rfl) (by kernel_rfl) (by kernel_rfl) (by kernel_rfl) (by exact fun _ _ _ h => h) (Or.inr ⟨by rfl, rfl⟩) (by assumption) ?_
                    try simp only [Act.put, List.setIfInBounds_toArray, List.set_cons_zero, List.set_cons_succ]
                    first
                      | (refine wpAnyH_take (i := 6) (oi := _) (v := ?vop70) (by simp only [List.getElem?_toArray, List.getElem?_cons_succ, List.getElem?_cons_zero]; rfl) (by kernel_rfl) (by kernel_rfl) (by kernel_rfl) (by exact fun _ _ _ h => h) (Or.inl ⟨by rfl, ?hyop70⟩) (by assumption) ?restop70
                         case hyop70 => (intro w hSw; (try dsimp only at hSw); go_simp; try (with_reducible rfl)))
                      | refine wpAnyH_take (i := 6) (oi := _) (v := undef) (by simp only [List.getElem?_toArray, List.getElem?_cons_succ, List.getElem?_cons_zero]; rfl) (by kernel_rfl) (by kernel_rfl) (by kernel_rfl) (by exact fun _ _ _ h => h) (Or.inr ⟨by rfl, rfl⟩) (by assumption) ?_
                    try simp only [Act.put, List.setIfInBounds_toArray, List.set_cons_zero, List.set_cons_succ]
                    first
                      | (refine wpAnyH_take (i := 7) (oi := _) (v := ?vop71) (by simp only [List.getElem?_toArray, List.getElem?_cons_succ, List.getElem?_cons_zero]; rfl) (by kernel_rfl) (by kernel_rfl) (by kernel_rfl) (by exact fun _ _ _ h => h) (Or.inl ⟨by rfl, ?hyop71⟩) (by assumption) ?restop71
                         case hyop71 => (intro w hSw; (try dsimp only at hSw); go_simp; try (with_reducible rfl)))
                      | refine wpAnyH_take (i := 7) (oi := _) (v := undef) (by simp only [List.getElem?_toArray, List.getElem?_cons_succ, List.getElem?_cons_zero]; rfl) (by kernel_rfl) (by kernel_rfl) (by kernel_rfl) (by exact fun _ _ _ h => h) (Or.inr ⟨by rfl, rfl⟩) (by assumption) ?_
                    try simp only [Act.put, List.setIfInBounds_toArray, List.set_cons_zero, List.set_cons_succ]
                    first
                      | (refine wpAnyH_take (i := 8) (oi := _) (v := ?vop72) (by simp only [List.getElem?_toArray, List.getElem?_cons_succ, List.getElem?_cons_zero]; rfl) (by kernel_rfl) (by kernel_rfl) (by kernel_rfl) (by exact fun _ _ _ h => h) (Or.inl ⟨by rfl, ?hyop72⟩) (by assumption) ?restop72
                         case hyop72 => (intro w hSw; (try dsimp only at hSw); go_simp; try (with_reducible rfl)))
                      | refine wpAnyH_take (i := 8) (oi := _) (v := undef) (by simp only [List.getElem?_toArray, List.getElem?_cons_succ, List.getElem?_cons_zero]; rfl) (by kernel_rfl) (by kernel_rfl) (by kernel_rfl) (by exact fun _ _ _ h => h) (Or.inr ⟨by rfl, rfl⟩) (by assumption) ?_
                    try simp only [Act.put, List.setIfInBounds_toArray, List.set_cons_zero, List.set_cons_succ]
                    first
                      | (refine wpAnyH_take (i := 9) (oi := _) (v := ?vop73) (by simp only [List.getElem?_toArray, List.getElem?_cons_succ, List.getElem?_cons_zero]; rfl) (by kernel_rfl) (by kernel_rfl) (by kernel_rfl) (by exact fun _ _ _ h => h) (Or.inl ⟨by rfl, ?hyop73⟩) (by assumption) ?restop73
                         case hyop73 => (intro w hSw; (try dsimp only at hSw); go_simp; try (with_reducible rfl)))
                      | refine wpAnyH_take (i := 9) (oi := _) (v := undef) (by simp only [List.getElem?_toArray, List.getElem?_cons_succ, List.getElem?_cons_zero]; rfl) (by kernel_rfl) (by kernel_rfl) (by kernel_rfl) (by exact fun _ _ _ h => h) (Or.inr ⟨by rfl, rfl⟩) (by assumption) ?_
                    try simp only [Act.put, List.setIfInBounds_toArray, List.set_cons_zero, List.set_cons_succ]
                    first
                      | (refine wpAnyH_take (i := 10) (oi := _) (v := ?vop74) (by simp only [List.getElem?_toArray, List.getElem?_cons_succ, List.getElem?_cons_zero]; rfl) (by kernel_rfl) (by kernel_rfl) (by kernel_rfl) (by exact fun _ _ _ h => h) (Or.inl ⟨by rfl, ?hyop74⟩) (by assumption) ?restop74
                         case hyop74 => (intro w hSw; (try dsimp only at hSw); go_simp; try (with_reducible rfl)))
                      | refine wpAnyH_take (i := 10) (oi := _) (v := undef) (by simp only [List.getElem?_toArray, List.getElem?_cons_succ, List.getElem?_cons_zero]; rfl) (by kernel_rfl) (by kernel_rfl) (by kernel_rfl) (by exact fun _ _ _ h => h) (Or.inr ⟨by rfl, rfl⟩) (by assumption) ?_
                    try simp only [Act.put, List.setIfInBounds_toArray, List.set_cons_zero, List.set_cons_succ]
                    first
                      | (refine wpAnyH_take (i := 11) (oi := _) (v := ?vop75) (by simp only [List.getElem?_toArray, List.getElem?_cons_succ, List.getElem?_cons_zero]; rfl) (by kernel_rfl) (by kernel_rfl) (by kernel_rfl) (by exact fun _ _ _ h => h) (Or.inl ⟨by rfl, ?hyop75⟩) (by assumption) ?restop75
                         case hyop75 => (intro w hSw; (try dsimp only at hSw); go_simp; try (with_reducible rfl)))
                      | refine wpAnyH_take (i := 11) (oi := _) (v := undef) (by simp only [List.getElem?_toArray, List.getElem?_cons_succ, List.getElem?_cons_zero]; rfl) (by kernel_rfl) (by kernel_rfl) (by kernel_rfl) (by exact fun _ _ _ h => h) (Or.inr ⟨by rfl, rfl⟩) (by assumption) ?_
                    try simp only [Act.put, List.setIfInBounds_toArray, List.set_cons_zero, List.set_cons_succ]
                    first
                      | (refine wpAnyH_take (i := 12) (oi := _) (v := ?vop76) (by simp only [List.getElem?_toArray, List.getElem?_cons_succ, List.getElem?_cons_zero]; rfl) (by kernel_rfl) (by kernel_rfl) (by kernel_rfl) (by exact fun _ _ _ h => h) (Or.inl ⟨by rfl, ?hyop76⟩) (by assumption) ?restop76
                         case hyop76 => (intro w hSw; (try dsimp only at hSw); go_simp; try (with_reducible rfl)))
                      | refine wpAnyH_take (i := 12) (oi := _) (v := undef) (by simp only [List.getElem?_toArray, List.getElem?_cons_succ, List.getElem?_cons_zero]; rfl) (by kernel_rfl) (by kernel_rfl) (by kernel_rfl) (by exact fun _ _ _ h => h) (Or.inr ⟨by rfl, rfl⟩) (by assumption) ?_
                    try simp only [Act.put, List.setIfInBounds_toArray, List.set_cons_zero, List.set_cons_succ]
                    first
                      | (refine wpAnyH_take (i := 13) (oi := _) (v := ?vop77) (by simp only [List.getElem?_toArray, List.getElem?_cons_succ, List.getElem?_cons_zero]; rfl) (by kernel_rfl) (by kernel_rfl) (by kernel_rfl) (by exact fun _ _ _ h => h) (Or.inl ⟨by rfl, ?hyop77⟩) (by assumption) ?restop77
                         case hyop77 => (intro w hSw; (try dsimp only at hSw); go_simp; try (with_reducible rfl)))
                      | refine wpAnyH_take (i := 13) (oi := _) (v := undef) (by simp only [List.getElem?_toArray, List.getElem?_cons_succ, List.getElem?_cons_zero]; rfl) (by kernel_rfl) (by kernel_rfl) (by kernel_rfl) (by exact fun _ _ _ h => h) (Or.inr ⟨by rfl, rfl⟩) (by assumption) ?_
                    try simp only [Act.put, List.setIfInBounds_toArray, List.set_cons_zero, List.set_cons_succ]
                    first
                      | (refine wpAnyH_take (i := 14) (oi := _) (v := ?vop78) (by simp only [List.getElem?_toArray, List.getElem?_cons_succ, List.getElem?_cons_zero]; rfl) (by kernel_rfl) (by kernel_rfl) (by kernel_rfl) (by exact fun _ _ _ h => h) (Or.inl ⟨by rfl, ?hyop78⟩) (by assumption) ?restop78
                         case hyop78 => (intro w hSw; (try dsimp only at hSw); go_simp; try (with_reducible rfl)))
                      | refine wpAnyH_take (i := 14) (oi := _) (v := undef) (by simp only [List.getElem?_toArray, List.getElem?_cons_succ, List.getElem?_cons_zero]; rfl) (by kernel_rfl) (by kernel_rfl) (by kernel_rfl) (by exact fun _ _ _ h => h) (Or.inr ⟨by rfl, rfl⟩) (by assumption) ?_
                    try simp only [Act.put, List.setIfInBounds_toArray, List.set_cons_zero, List.set_cons_succ]
                    first
                      | (refine wpAnyH_take (i := 15) (oi := _) (v := ?vop79) (by simp only [List.getElem?_toArray, List.getElem?_cons_succ, List.getElem?_cons_zero]; rfl) (by kernel_rfl) (by kernel_rfl) (by kernel_rfl) (by exact fun _ _ _ h => h) (Or.inl ⟨by rfl, ?hyop79⟩) (by assumption) ?restop79
                         case hyop79 => (intro w hSw; (try dsimp only at hSw); go_simp; try (with_reducible rfl)))
                      | refine wpAnyH_take (i := 15) (oi := _) (v := undef) (by simp only [List.getElem?_toArray, List.getElem?_cons_succ, List.getElem?_cons_zero]; rfl) (by kernel_rfl) (by kernel_rfl) (by kernel_rfl) (by exact fun _ _ _ h => h) (Or.inr ⟨by rfl, rfl⟩) (by assumption) ?_
                    try simp only [Act.put, List.setIfInBounds_toArray, List.set_cons_zero, List.set_cons_succ]
                    first
                      | (refine wpAnyH_take (i := 16) (oi := _) (v := ?vop80) (by simp only [List.getElem?_toArray, List.getElem?_cons_succ, List.getElem?_cons_zero]; rfl) (by kernel_rfl) (by kernel_rfl) (by kernel_rfl) (by exact fun _ _ _ h => h) (Or.inl ⟨by rfl, ?hyop80⟩) (by assumption) ?restop80
                         case hyop80 => (intro w hSw; (try dsimp only at hSw); go_simp; try (with_reducible rfl)))
                      | refine wpAnyH_take (i := 16) (oi := _) (v := undef) (by simp only [List.getElem?_toArray, List.getElem?_cons_succ, List.getElem?_cons_zero]; rfl) (by kernel_rfl) (by kernel_rfl) (by kernel_rfl) (by exact fun _ _ _ h => h) (Or.inr ⟨by rfl, rfl⟩) (by assumption) ?_
                    try simp only [Act.put, List.setIfInBounds_toArray, List.set_cons_zero, List.set_cons_succ]
                    first
                      | (refine wpAnyH_take (i := 17) (oi := _) (v := ?vop81) (by simp only [List.getElem?_toArray, List.getElem?_cons_succ, List.getElem?_cons_zero]; rfl) (by kernel_rfl) (by kernel_rfl) (by kernel_rfl) (by exact fun _ _ _ h => h) (Or.inl ⟨by rfl, ?hyop81⟩) (by assumption) ?restop81
                         case hyop81 => (intro w hSw; (try dsimp only at hSw); go_simp; try (with_reducible rfl)))
                      | refine wpAnyH_take (i := 17) (oi := _) (v := undef) (by simp only [List.getElem?_toArray, List.getElem?_cons_succ, List.getElem?_cons_zero]; rfl) (by kernel_rfl) (by kernel_rfl) (by kernel_rfl) (by exact fun _ _ _ h => h) (Or.inr ⟨by rfl, rfl⟩) (by assumption) ?_
                    try simp only [Act.put, List.setIfInBounds_toArray, List.set_cons_zero, List.set_cons_succ]
                    first
                      | (refine wpAnyH_take (i := 18) (oi := _) (v := ?vop82) (by simp only [List.getElem?_toArray, List.getElem?_cons_succ, List.getElem?_cons_zero]; rfl) (by kernel_rfl) (by kernel_rfl) (by kernel_rfl) (by exact fun _ _ _ h => h) (Or.inl ⟨by rfl, ?hyop82⟩) (by assumption) ?restop82
                         case hyop82 => (intro w hSw; (try dsimp only at hSw); go_simp; try (with_reducible rfl)))
                      | refine wpAnyH_take (i := 18) (oi := _) (v := undef) (by simp only [List.getElem?_toArray, List.getElem?_cons_succ, List.getElem?_cons_zero]; rfl) (by kernel_rfl) (by kernel_rfl) (by kernel_rfl) (by exact fun _ _ _ h => h) (Or.inr ⟨by rfl, rfl⟩) (by assumption) ?_
                    try simp only [Act.put, List.setIfInBounds_toArray, List.set_cons_zero, List.set_cons_succ]
                    refine wpAnyH_take (i := 19) (oi := _) (v := undef) (by simp only [List.getElem?_toArray, List.getElem?_cons_succ, List.getElem?_cons_zero]; rfl) (by kernel_rfl) (by kernel_rfl) (by kernel_rfl) (by exact fun _ _ _ h => h) (Or.inr ⟨by rfl, rfl⟩) (by assumption) ?_
                    try simp only [Act.put, List.setIfInBounds_toArray, List.set_cons_zero, List.set_cons_succ]
                    refine wpAnyH_take (i := 20) (oi := _) (v := undef) (by simp only [List.getElem?_toArray, List.getElem?_cons_succ, List.getElem?_cons_zero]; rfl) (by kernel_rfl) (by kernel_rfl) (by kernel_rfl) (by exact fun _ _ _ h => h) (Or.inr ⟨by rfl, rfl⟩) (by assumption) ?_
                    try simp only [Act.put, List.setIfInBounds_toArray, List.set_cons_zero, List.set_cons_succ]
                    refine wpAnyH_take (i := 21) (oi := _) (v := undef) (by simp only [List.getElem?_toArray, List.getElem?_cons_succ, List.getElem?_cons_zero]; rfl) (by kernel_rfl) (by kernel_rfl) (by kernel_rfl) (by exact fun _ _ _ h => h) (Or.inr ⟨by rfl, rfl⟩) (by assumption) ?_
                    try simp only [Act.put, List.setIfInBounds_toArray, List.set_cons_zero, List.set_cons_succ]
                    refine wpAnyH_take (i := 22) (oi := _) (v := undef) (by simp only [List.getElem?_toArray, List.getElem?_cons_succ, List.getElem?_cons_zero]; rfl) (by kernel_rfl) (by kernel_rfl) (by kernel_rfl) (by exact fun _ _ _ h => h) (Or.inr ⟨by rfl, rfl⟩) (by assumption) ?_
                    try simp only [Act.put, List.setIfInBounds_toArray, List.set_cons_zero, List.set_cons_succ]
                    first
                      | (refine wpAnyH_take (i := 23) (oi := _) (v := ?vop83) (by simp only [List.getElem?_toArray, List.getElem?_cons_succ, List.getElem?_cons_zero]; rfl) (by kernel_rfl) (by kernel_rfl) (by kernel_rfl) (by exact fun _ _ _ h => h) (Or.inl ⟨by rfl, ?hyop83⟩) (by assumption) ?restop83
                         case hyop83 => (intro w hSw; (try dsimp only at hSw); go_simp; try (with_reducible rfl)))
                      | refine wpAnyH_take (i := 23) (oi := _) (v := undef) (by simp only [List.getElem?_toArray, List.getElem?_cons_succ, List.getElem?_cons_zero]; rfl) (by kernel_rfl) (by kernel_rfl) (by kernel_rfl) (by exact fun _ _ _ h => h) (Or.inr ⟨by rfl, rfl⟩) (by assumption) ?_
                    try simp only [Act.put, List.setIfInBounds_toArray, List.set_cons_zero, List.set_cons_succ]
                    first
                      | (refine wpAnyH_take (i := 24) (oi := _) (v := ?vop84) (by simp only [List.getElem?_toArray, List.getElem?_cons_succ, List.getElem?_cons_zero]; rfl) (by kernel_rfl) (by kernel_rfl) (by kernel_rfl) (by exact fun _ _ _ h => h) (Or.inl ⟨by rfl, ?hyop84⟩) (by assumption) ?restop84
                         case hyop84 => (intro w hSw; (try dsimp only at hSw); go_simp; try (with_reducible rfl)))
                      | refine wpAnyH_take (i := 24) (oi := _) (v := undef) (by simp only [List.getElem?_toArray, List.getElem?_cons_succ, List.getElem?_cons_zero]; rfl) (by kernel_rfl) (by kernel_rfl) (by kernel_rfl) (by exact fun _ _ _ h => h) (Or.inr ⟨by rfl, rfl⟩) (by assumption) ?_
                    try simp only [Act.put, List.setIfInBounds_toArray, List.set_cons_zero, List.set_cons_succ]
                    refine wpAnyH_done (by kernel_rfl) ?_ _
                    go_wp2
                    go_roundw
                    case rel => exact ⟨k + 1, m + 1, B, O5, by omega, by go_num, by omega, by omega, HPX.out.ext (by  first | exact gr_drewN _ _ _ | exact gr_none (gr_drew _ _) (gr_drew _ _) | exact gr_drew _ _), HB6.out.ext (by  first | exact gr_drewN _ _ _ | exact gr_none (gr_drew _ _) (gr_drew _ _) | exact gr_drew _ _)⟩
                    case measure => simp [intOf] <;> omega
                · as_aux_lemma =>
                    have hb8 : ¬ (b.length : Int) ≤ 240 := by omega
                    have hb7 : decide ((b.length : Int) ≤ 240) = false := by simp; omega
                    have hb6 : ¬ b.length ≤ 240 := by omega
                    clear hb9 e1 e2 e3 e1' e2' e2n ec hE hpr0 hbk hpg0 q1 hx hcelll HIX HST HP6
                    go_wp2_with fail
                    go_region_held3 (fun w' => w'.cell? ⟨wr.heap.size, 2, none⟩ = some (.int .i64 i) ∧ w'.cell? ⟨gl, offl + j * 2 + 1, none⟩ = some (.slice Ap pL.length cp) ∧ w'.cell? ⟨wr.heap.size, 3, none⟩ = some (.slice Ab b.length cb)) (go_keep) (fail)
                    go_wp2
                    go_roundw
                    case rel => exact ⟨k + 1, m + 1, B, O5, by omega, by go_num, by omega, by omega, HPX.out.ext (by  first | exact gr_drewN _ _ _ | exact gr_none (gr_drew _ _) (gr_drew _ _) | exact gr_drew _ _), HB6.out.ext (by  first | exact gr_drewN _ _ _ | exact gr_none (gr_drew _ _) (gr_drew _ _) | exact gr_drew _ _)⟩
                    case measure => simp [intOf] <;> omega
              · have e2n : er = 0 := e2'.trans ec0
                clear e2'
                have HEC := Lib.hid ec
                have HF8 := Lib.hid e1'
                have HR0 := Lib.hid hpr0
                have HPG := Lib.hid hpg0
                have hxn : (B[j]'hj).n = pn := by rw [← hx]
                have HXN := Lib.hid hxn
                clear hxn
                have HJ := Lib.hid hj
                have HBV : Hid (RdB w1 (.slice Ab b.length cb) b) := HOB.out.ext G1.out
                have HPQ : Hid (PF w1 d p O5 F8 [] (m + 1) w6) := HP6.out
                have hb1 : (b.length : Int) ≤ 240 := by omega
                have hK0 : (0 : Int) ≤ (K : Int) := by omega
                have hK1 : (K : Int) ≤ (pL.length : Int) := by omega
                have hpl : pL.length ≤ 150 := by
                  have h1 := sum_mem hj
                  rw [← hx] at h1
                  have h2 := HSM.out
                  have h3 : pL.length ≤ sumF (B.map Bk.fz) := h1
                  omega
                subst e2n
                subst ek
                by_cases hKl : K < pL.length
                · as_aux_lemma =>
                    have hkq : ((K : Int) == (pL.length : Int)) = false := by rw [beq_eq_false_iff_ne]; omega
                    clear  e1 e2 e3 e1' ec ec0 hpr0 hbk hpg0 q1 hx hcelll HIX HST HP6
                    go_wp2_with fail
                    go_region_held3 (fun w' => w'.cell? ⟨wr.heap.size, 2, none⟩ = some (.int .i64 (K : Int)) ∧ w'.cell? ⟨gl, offl + j * 2 + 1, none⟩ = some (.slice Ap pL.length cp) ∧ w'.cell? ⟨wr.heap.size, 3, none⟩ = some (.slice Ab b.length cb)) (go_keep) (fail)
                    obtain ⟨wd, hwd⟩ : ∃ wd, wd = w6.drew := ⟨_, rfl⟩
                    have hgd : w6.grownBy wd none := by rw [hwd]; exact gr_drew _ _
                    have t2d : wd.cell? ⟨w5.heap.size, 2, none⟩ = some (.int .i64 ((0 : Nat) : Int)) := by rw [hwd]; exact t2
                    have l1d : (wd.alloc (.cells #[] 33)).cell? ⟨gl, offl + j * 2 + 1, none⟩ = some (.slice Ap pL.length cp) := (gr_none hgd (gr_alloc _ _ none)).cell l1 (by simp)
                    rw [← hwd]
                    have HGD := Lib.hid hgd
                    have HRD := Lib.hid (HR0.out.ext hgd)
                    clear hgd hwd t2 l1 o2 o3 hcell6 hcell7
                    go_wp2_with (at_builtin; refine wp_copyV (w0 := w1) (B := w1.heap.size) (L := pL) HRD.out HPG.out rfl (.tmp 209) (.tmp 214) rfl _ rfl rfl rfl (Nat.le_trans HPQ.out.gr.size HGD.out.size) (by omega) ?_; rintro A7 c7 w7 hp7 g7 hv7; have hst := (HB6.out.ext HGD.out).store (b := b) (K := K) HJ.out HXN.out (fun i hi => HPQ.out.fresh (Nat.le_trans HGD.out.size hi)) hp7 g7 hv7 (by omega) HBV.out HPG.out; obtain ⟨gp, offp, gl', offl', rfl, ea, hn7, -, hne, hf1, ⟨u1, hc1⟩, hf2, ⟨u2, hc2⟩, hfin, hgr, hOg, hlow⟩ := hst; cases ea; have hne2 : ¬ gl = gp := fun e => hne e.symm; have o2' : w7.cell? ⟨wr.heap.size, 2, none⟩ = some (.int .i64 (K : Int)) := ((HK6.out.ext HGD.out).ext g7).cell 2; have o3' : w7.cell? ⟨wr.heap.size, 3, none⟩ = some (.slice Ab b.length cb) := ((HK6.out.ext HGD.out).ext g7).cell 3; have HFIN := Lib.hid hfin; have HGR := Lib.hid (gr_any HGD.out hgr); have HOG : Hid (O5 gl = none ∧ w1.heap.size ≤ gl) := ⟨hOg, hlow⟩; clear hfin hgr hOg hlow hp7 g7 hv7)
                    have HSET := HEC.out (.slice (some ⟨gp, offp, none⟩) pL.length c7) (pL.set K (.slice Ab b.length cb, b)) (setP_set hKl _ _)
                    have HPN : Hid (PF w1 d p O5 ((B.set j ⟨pn, .slice (some ⟨gp, offp, none⟩) pL.length c7, pL.set K (.slice Ab b.length cb, b)⟩).map Bk.fz) [] (m + 1) ((w7.setCell ⟨gp, offp + K, none⟩ (.slice Ab b.length cb)).setCell ⟨gl, offl + j * 2 + 1, none⟩ (.slice (some ⟨gp, offp, none⟩) pL.length c7))) := by
                      have h9 := (sta_pf w1 d p F8 [] (m + 1)).far HPQ.out HGR.out fun q e => by cases e; exact HOG.out
                      rw [HF8.out, HSET] at h9
                      exact h9
                    have HBN : (B.set j ⟨pn, .slice (some ⟨gp, offp, none⟩) pL.length c7, pL.set K (.slice Ab b.length cb, b)⟩).length ≤ k := by rw [List.length_set]; exact hBk
                    go_roundw
                    case rel => exact ⟨k + 1, m + 1, _, O5, by omega, by go_num, by omega, by omega, HPN.out, HFIN.out⟩
                    case measure => simp [intOf] <;> omega
                · as_aux_lemma =>
                    obtain rfl : K = pL.length := by omega
                    clear  e1 e2 e3 e1' ec ec0 hpr0 hbk hpg0 q1 hx hcelll HIX HST HP6
                    go_wp2_with fail
                    go_region_held3 (fun w' => w'.cell? ⟨wr.heap.size, 2, none⟩ = some (.int .i64 (pL.length : Int)) ∧ w'.cell? ⟨gl, offl + j * 2 + 1, none⟩ = some (.slice Ap pL.length cp) ∧ w'.cell? ⟨wr.heap.size, 3, none⟩ = some (.slice Ab b.length cb)) (go_keep) (fail)
                    obtain ⟨wd, hwd⟩ : ∃ wd, wd = w6.drew := ⟨_, rfl⟩
                    have hgd : w6.grownBy wd none := by rw [hwd]; exact gr_drew _ _
                    have t2d : wd.cell? ⟨w5.heap.size, 2, none⟩ = some (.int .i64 ((0 : Nat) : Int)) := by rw [hwd]; exact t2
                    have l1d : (wd.alloc (.cells #[] 33)).cell? ⟨gl, offl + j * 2 + 1, none⟩ = some (.slice Ap pL.length cp) := (gr_none hgd (gr_alloc _ _ none)).cell l1 (by simp)
                    rw [← hwd]
                    have HGD := Lib.hid hgd
                    have HRD := Lib.hid (HR0.out.ext hgd)
                    clear hgd hwd t2 l1 o2 o3 hcell6 hcell7
                    have o2q := fun wx (g : w6.grownBy wx none) => (HK6.out.ext g).cell 2
                    have O2Q := Lib.hid o2q
                    clear o2q
                    go_wp2_with (first
                      | (at_builtin; refine wp_copyV (w0 := w1) (B := w1.heap.size) (L := pL) HRD.out HPG.out rfl (.tmp 209) (.tmp 214) rfl _ rfl rfl rfl (Nat.le_trans HPQ.out.gr.size HGD.out.size) (by omega) ?_; rintro A7 c7 w7 hp7 g7 hv7; have o2'' : w7.cell? ⟨wr.heap.size, 2, none⟩ = some (.int .i64 (pL.length : Int)) := O2Q.out w7 (gr_none HGD.out g7))
                      | (at_builtin; refine wp_nilV (wb := wd) (B := w1.heap.size) (L := pL) hp7 g7 hv7 rfl (.tmp 221) (.tmp 222) rfl _ rfl rfl rfl (Nat.le_trans (Nat.le_trans HPQ.out.gr.size HGD.out.size) g7.size) (by omega) ?_; clear o2'' hp7 g7 hv7; rintro A8 c8 w8 hp8 g8 hv8; have hst := (HB6.out.ext HGD.out).store (b := b) (K := pL.length) HJ.out HXN.out (fun i hi => HPQ.out.fresh (Nat.le_trans HGD.out.size hi)) hp8 g8 hv8 (by omega) HBV.out (fun y hy => by rcases List.mem_append.1 hy with hy | hy; exact HPG.out y hy; rw [List.mem_singleton.1 hy]; exact Rd.nil _ _); obtain ⟨gp, offp, gl', offl', rfl, ea, hn7, -, hne, hf1, ⟨u1, hc1⟩, hf2, ⟨u2, hc2⟩, hfin, hgr, hOg, hlow⟩ := hst; cases ea; have hne2 : ¬ gl = gp := fun e => hne e.symm; have o2' : w8.cell? ⟨wr.heap.size, 2, none⟩ = some (.int .i64 (pL.length : Int)) := ((HK6.out.ext HGD.out).ext g8).cell 2; have o3' : w8.cell? ⟨wr.heap.size, 3, none⟩ = some (.slice Ab b.length cb) := ((HK6.out.ext HGD.out).ext g8).cell 3; have HFIN := Lib.hid hfin; have HGR := Lib.hid (gr_any HGD.out hgr); have HOG : Hid (O5 gl = none ∧ w1.heap.size ≤ gl) := ⟨hOg, hlow⟩; clear hfin hgr hOg hlow hp8 g8 hv8))
                    have HSET := HEC.out (.slice (some ⟨gp, offp, none⟩) (pL.length + 1) c8) ((pL ++ [(Value.slice none 0 0, [])]).set pL.length (.slice Ab b.length cb, b)) (setP_app _ _ _ _)
                    have HPN : Hid (PF w1 d p O5 ((B.set j ⟨pn, .slice (some ⟨gp, offp, none⟩) (pL.length + 1) c8, (pL ++ [(Value.slice none 0 0, [])]).set pL.length (.slice Ab b.length cb, b)⟩).map Bk.fz) [] (m + 1) ((w8.setCell ⟨gp, offp + pL.length, none⟩ (.slice Ab b.length cb)).setCell ⟨gl, offl + j * 2 + 1, none⟩ (.slice (some ⟨gp, offp, none⟩) (pL.length + 1) c8))) := by
                      have h9 := (sta_pf w1 d p F8 [] (m + 1)).far HPQ.out HGR.out fun q e => by cases e; exact HOG.out
                      rw [HF8.out, HSET] at h9
                      exact h9
                    have HBN : (B.set j ⟨pn, .slice (some ⟨gp, offp, none⟩) (pL.length + 1) c8, (pL ++ [(Value.slice none 0 0, [])]).set pL.length (.slice Ab b.length cb, b)⟩).length ≤ k := by rw [List.length_set]; exact hBk
                    go_roundw
                    case rel => exact ⟨k + 1, m + 1, _, O5, by omega, by go_num, by omega, by omega, HPN.out, HFIN.out⟩
                    case measure => simp [intOf] <;> omega
            · as_aux_lemma =>
                have hz0 : ¬ (0 : Int) ≤ z := by omega
                have hz1 : decide ((0 : Int) ≤ z) = false := by simpa using hz0
                rw [ec] at e1' e2'
                have HPX : Hid (PF w1 d p O5 (B.map Bk.fz) [] (m + 1) w6) := by have := HP6.out; rw [e1'] at this; exact this
                have e2n : er = E := e2'
                have her : ((er : Int) == 0) = false := by rw [e2n, beq_eq_false_iff_ne]; omega
                clear ez e1 e2 e3 e1' e2' e2n ec hE HIX HST HP6
                go_wp2_with fail
                refine wp_region_held_drew (S := fun _ => True) (by kernel_rfl) ?_ (fun hHeld => ?_)
                · trivial
                first
                  | (refine wpAnyH_take (i := 0) (oi := _) (v := ?vop85) (by simp only [List.getElem?_toArray, List.getElem?_cons_zero]; rfl) (by kernel_rfl) (by kernel_rfl) (by kernel_rfl) (by exact fun _ _ _ h => h) (Or.inl ⟨by rfl, ?hyop85⟩) (by assumption) ?restop85
                     case hyop85 => (intro w hSw; (try dsimp only at hSw); go_simp; try (with_reducible rfl)))
                  | refine wpAnyH_take (i := 0) (oi := _) (v := undef) (by simp only [List.getElem?_toArray, List.getElem?_cons_zero]; rfl) (by kernel_rfl) (by kernel_rfl) (by kernel_rfl) (by exact fun _ _ _ h => h) (Or.inr ⟨by rfl, rfl⟩) (by assumption) ?_
                try simp only [Act.put, List.setIfInBounds_toArray, List.set_cons_zero, List.set_cons_succ]
                first
                  | (refine wpAnyH_take (i := 1) (oi := _) (v := ?vop86) (by simp only [List.getElem?_toArray, List.getElem?_cons_succ, List.getElem?_cons_zero]; rfl) (by kernel_rfl) (by kernel_rfl) (by kernel_rfl) (by exact fun _ _ _ h => h) (Or.inl ⟨by rfl, ?hyop86⟩) (by assumption) ?restop86
                     case hyop86 => (intro w hSw; (try dsimp only at hSw); go_simp; try (with_reducible rfl)))
                  | refine wpAnyH_take (i := 1) (oi := _) (v := undef) (by simp only [List.getElem?_toArray, List.getElem?_cons_succ, List.getElem?_cons_zero]; rfl) (by kernel_rfl) (by kernel_rfl) (by kernel_rfl) (by exact fun _ _ _ h => h) (Or.inr ⟨by rfl, rfl⟩) (by assumption) ?_
                try simp only [Act.put, List.setIfInBounds_toArray, List.set_cons_zero, List.set_cons_succ]
                first
                  | (refine wpAnyH_take (i := 2) (oi := _) (v := ?vop87) (by simp only [List.getElem?_toArray, List.getElem?_cons_succ, List.getElem?_cons_zero]; rfl) (by kernel_rfl) (by kernel_rfl) (by kernel_rfl) (by exact fun _ _ _ h => h) (Or.inl ⟨by rfl, ?hyop87⟩) (by assumption) ?restop87
                     case hyop87 => (intro w hSw; (try dsimp only at hSw); go_simp; try (with_reducible rfl)))
                  | refine wpAnyH_take (i := 2) (oi := _) (v := undef) (by simp only [List.getElem?_toArray, List.getElem?_cons_succ, List.getElem?_cons_zero]; rfl) (by kernel_rfl) (by kernel_rfl) (by kernel_rfl) (by exact fun _ _ _ h => h) (Or.inr ⟨by rfl, rfl⟩) (by assumption) ?_
                try simp only [Act.put, List.setIfInBounds_toArray, List.set_cons_zero, List.set_cons_succ]
                refine wpAnyH_take (i := 3) (oi := _) (v := undef) (by simp only [List.getElem?_toArray, List.getElem?_cons_succ, List.getElem?_cons_zero]; rfl) (by kernel_rfl) (by kernel_rfl) (by kernel_rfl) (by exact fun _ _ _ h => h) (Or.inr ⟨by rfl, rfl⟩) (by assumption) ?_
                try simp only [Act.put, List.setIfInBounds_toArray, List.set_cons_zero, List.set_cons_succ]
                refine wpAnyH_take (i := 4) (oi := _) (v := undef) (by simp only [List.getElem?_toArray, List.getElem?_cons_succ, List.getElem?_cons_zero]; rfl) (by kernel_rfl) (by kernel_rfl) (by kernel_rfl) (by exact fun _ _ _ h => h) (Or.inr ⟨by rfl, rfl⟩) (by assumption) ?_
                try simp only [Act.put, List.setIfInBounds_toArray, List.set_cons_zero, List.set_cons_succ]
                refine wpAnyH_take (i := 5) (oi := _) (v := undef) (by simp only [List.getElem?_toArray, List.getElem?_cons_succ, List.getElem?_cons_zero]; rfl) (by kernel_rfl) (by kernel_rfl) (by kernel_rfl) (by exact fun _ _ _ h => h) (Or.inr ⟨by rfl, rfl⟩) (by assumption) ?_
                try simp only [Act.put, List.setIfInBounds_toArray, List.set_cons_zero, List.set_cons_succ]
                first
                  | (refine wpAnyH_take (i := 6) (oi := _) (v := ?vop88) (by simp only [List.getElem?_toArray, List.getElem?_cons_succ, List.getElem?_cons_zero]; rfl) (by kernel_rfl) (by kernel_rfl) (by kernel_rfl) (by exact fun _ _ _ h => h) (Or.inl ⟨by rfl, ?hyop88⟩) (by assumption) ?restop88
                     case hyop88 => (intro w hSw; (try dsimp only at hSw); go_simp; try (with_reducible rfl)))
                  | refine wpAnyH_take (i := 6) (oi := _) (v := undef) (by simp only [List.getElem?_toArray, List.getElem?_cons_succ, List.getElem?_cons_zero]; rfl) (by kernel_rfl) (by kernel_rfl) (by kernel_rfl) (by exact fun _ _ _ h => h) (Or.inr ⟨by rfl, rfl⟩) (by assumption) ?_
                try simp only [Act.put, List.setIfInBounds_toArray, List.set_cons_zero, List.set_cons_succ]
                first
                  | (refine wpAnyH_take (i := 7) (oi := _) (v := ?vop89) (by simp only [List.getElem?_toArray, List.getElem?_cons_succ, List.getElem?_cons_zero]; rfl) (by kernel_rfl) (by kernel_rfl) (by kernel_rfl) (by exact fun _ _ _ h => h) (Or.inl ⟨by rfl, ?hyop89⟩) (by assumption) ?restop89
                     case hyop89 => (intro w hSw; (try dsimp only at hSw); go_simp; try (with_reducible rfl)))
                  | refine wpAnyH_take (i := 7) (oi := _) (v := undef) (by simp only [List.getElem?_toArray, List.getElem?_cons_succ, List.getElem?_cons_zero]; rfl) (by kernel_rfl) (by kernel_rfl) (by kernel_rfl) (by exact fun _ _ _ h => h) (Or.inr ⟨by rfl, rfl⟩) (by assumption) ?_
                try simp only [Act.put, List.setIfInBounds_toArray, List.set_cons_zero, List.set_cons_succ]
                refine wpAnyH_take (i := 8) (oi := _) (v := undef) (by simp only [List.getElem?_toArray, List.getElem?_cons_succ, List.getElem?_cons_zero]; rfl) (by kernel_rfl) (by kernel_rfl) (by kernel_rfl) (by exact fun _ _ _ h => h) (Or.inr ⟨by rfl, rfl⟩) (by assumption) ?_
                try simp only [Act.put, List.setIfInBounds_toArray, List.set_cons_zero, List.set_cons_succ]
                refine wpAnyH_take (i := 9) (oi := _) (v := undef) (by simp only [List.getElem?_toArray, List.getElem?_cons_succ, List.getElem?_cons_zero]; rfl) (by kernel_rfl) (by kernel_rfl) (by kernel_rfl) (by exact fun _ _ _ h => h) (Or.inr ⟨by rfl, rfl⟩) (by assumption) ?_
                try simp only [Act.put, List.setIfInBounds_toArray, List.set_cons_zero, List.set_cons_succ]
                refine wpAnyH_take (i := 10) (oi := _) (v := undef) (by simp only [List.getElem?_toArray, List.getElem?_cons_succ, List.getElem?_cons_zero]; rfl) (by kernel_rfl) (by kernel_rfl) (by kernel_rfl) (by exact fun _ _ _ h => h) (Or.inr ⟨by rfl, rfl⟩) (by assumption) ?_
                try simp only [Act.put, List.setIfInBounds_toArray, List.set_cons_zero, List.set_cons_succ]
                refine wpAnyH_take (i := 11) (oi := _) (v := undef) (by simp only [List.getElem?_toArray, List.getElem?_cons_succ, List.getElem?_cons_zero]; rfl) (by kernel_rfl) (by kernel_rfl) (by kernel_rfl) (by exact fun _ _ _ h => h) (Or.inr ⟨by rfl, rfl⟩) (by assumption) ?_
                try simp only [Act.put, List.setIfInBounds_toArray, List.set_cons_zero, List.set_cons_succ]
                refine wpAnyH_take (i := 12) (oi := _) (v := undef) (by simp only [List.getElem?_toArray, List.getElem?_cons_succ, List.getElem?_cons_zero]; rfl) (by kernel_rfl) (by kernel_rfl) (by kernel_rfl) (by exact fun _ _ _ h => h) (Or.inr ⟨by rfl, rfl⟩) (by assumption) ?_
                try simp only [Act.put, List.setIfInBounds_toArray, List.set_cons_zero, List.set_cons_succ]
                refine wpAnyH_take (i := 13) (oi := _) (v := undef) (by simp only [List.getElem?_toArray, List.getElem?_cons_succ, List.getElem?_cons_zero]; rfl) (by kernel_rfl) (by kernel_rfl) (by kernel_rfl) (by exact fun _ _ _ h => h) (Or.inr ⟨by rfl, rfl⟩) (by assumption) ?_
                try simp only [Act.put, List.setIfInBounds_toArray, List.set_cons_zero, List.set_cons_succ]
                refine wpAnyH_take (i := 14) (oi := _) (v := undef) (by simp only [List.getElem?_toArray, List.getElem?_cons_succ, List.getElem?_cons_zero]; rfl) (by kernel_rfl) (by kernel_rfl) (by kernel_rfl) (by exact fun _ _ _ h => h) (Or.inr ⟨by rfl, rfl⟩) (by assumption) ?_
                try simp only [Act.put, List.setIfInBounds_toArray, List.set_cons_zero, List.set_cons_succ]
                refine wpAnyH_take (i := 15) (oi := _) (v := undef) (by simp only [List.getElem?_toArray, List.getElem?_cons_succ, List.getElem?_cons_zero]; rfl) (by kernel_rfl) (by kernel_rfl) (by kernel_rfl) (by exact fun _ _ _ h => h) (Or.inr ⟨by rfl, rfl⟩) (by assumption) ?_
                try simp only [Act.put, List.setIfInBounds_toArray, List.set_cons_zero, List.set_cons_succ]
                refine wpAnyH_take (i := 16) (oi := _) (v := undef) (by simp only [List.getElem?_toArray, List.getElem?_cons_succ, List.getElem?_cons_zero]; rfl) (by kernel_rfl) (by kernel_rfl) (by kernel_rfl) (by exact fun _ _ _ h => h) (Or.inr ⟨by rfl, rfl⟩) (by assumption) ?_
                try simp only [Act.put, List.setIfInBounds_toArray, List.set_cons_zero, List.set_cons_succ]
                first
                  | (refine wpAnyH_take (i := 17) (oi := _) (v := ?vop90) (by simp only [List.getElem?_toArray, List.getElem?_cons_succ, List.getElem?_cons_zero]; rfl) (by kernel_rfl) (by kernel_rfl) (by kernel_rfl) (by exact fun _ _ _ h => h) (Or.inl ⟨by rfl, ?hyop90⟩) (by assumption) ?restop90
                     case hyop90 => (intro w hSw; (try dsimp only at hSw); go_simp; try (with_reducible rfl)))
                  | refine wpAnyH_take (i := 17) (oi := _) (v := undef) (by simp only [List.getElem?_toArray, List.getElem?_cons_succ, List.getElem?_cons_zero]; rfl) (by kernel_rfl) (by kernel_rfl) (by kernel_rfl) (by exact fun _ _ _ h => h) (Or.inr ⟨by rfl, rfl⟩) (by assumption) ?_
                try simp only [Act.put, List.setIfInBounds_toArray, List.set_cons_zero, List.set_cons_succ]
                first
                  | (refine wpAnyH_take (i := 18) (oi := _) (v := ?vop91) (by simp only [List.getElem?_toArray, List.getElem?_cons_succ, List.getElem?_cons_zero]; rfl) (by kernel_rfl) (by kernel_rfl) (by kernel_rfl) (by exact fun _ _ _ h => h) (Or.inl ⟨by rfl, ?hyop91⟩) (by assumption) ?restop91
                     case hyop91 => (intro w hSw; (try dsimp only at hSw); go_simp; try (with_reducible rfl)))
                  | refine wpAnyH_take (i := 18) (oi := _) (v := undef) (by simp only [List.getElem?_toArray, List.getElem?_cons_succ, List.getElem?_cons_zero]; rfl) (by kernel_rfl) (by kernel_rfl) (by kernel_rfl) (by exact fun _ _ _ h => h) (Or.inr ⟨by rfl, rfl⟩) (by assumption) ?_
                try simp only [Act.put, List.setIfInBounds_toArray, List.set_cons_zero, List.set_cons_succ]
                refine wpAnyH_take (i := 19) (oi := _) (v := undef) (by simp only [List.getElem?_toArray, List.getElem?_cons_succ, List.getElem?_cons_zero]; rfl) (by kernel_rfl) (by kernel_rfl) (by kernel_rfl) (by exact fun _ _ _ h => h) (Or.inr ⟨by rfl, rfl⟩) (by assumption) ?_
                try simp only [Act.put, List.setIfInBounds_toArray, List.set_cons_zero, List.set_cons_succ]
                refine wpAnyH_take (i := 20) (oi := _) (v := undef) (by simp only [List.getElem?_toArray, List.getElem?_cons_succ, List.getElem?_cons_zero]; rfl) (by kernel_rfl) (by kernel_rfl) (by kernel_rfl) (by exact fun _ _ _ h => h) (Or.inr ⟨by rfl, rfl⟩) (by assumption) ?_
                try simp only [Act.put, List.setIfInBounds_toArray, List.set_cons_zero, List.set_cons_succ]
                refine wpAnyH_take (i := 21) (oi := _) (v := undef) (by simp only [List.getElem?_toArray, List.getElem?_cons_succ, List.getElem?_cons_zero]; rfl) (by kernel_rfl) (by kernel_rfl) (by kernel_rfl) (by exact fun _ _ _ h => h) (Or.inr ⟨by rfl, rfl⟩) (by assumption) ?_
                try simp only [Act.put, List.setIfInBounds_toArray, List.set_cons_zero, List.set_cons_succ]
                refine wpAnyH_take (i := 22) (oi := _) (v := undef) (by simp only [List.getElem?_toArray, List.getElem?_cons_succ, List.getElem?_cons_zero]; rfl) (by kernel_rfl) (by kernel_rfl) (by kernel_rfl) (by exact fun _ _ _ h => h) (Or.inr ⟨by rfl, rfl⟩) (by assumption) ?_
                try simp only [Act.put, List.setIfInBounds_toArray, List.set_cons_zero, List.set_cons_succ]
                first
                  | (refine wpAnyH_take (i := 23) (oi := _) (v := ?vop92) (by simp only [List.getElem?_toArray, List.getElem?_cons_succ, List.getElem?_cons_zero]; rfl) (by kernel_rfl) (by kernel_rfl) (by kernel_rfl) (by exact fun _ _ _ h => h) (Or.inl ⟨by rfl, ?hyop92⟩) (by assumption) ?restop92
                     case hyop92 => (intro w hSw; (try dsimp only at hSw); go_simp; try (with_reducible rfl)))
                  | refine wpAnyH_take (i := 23) (oi := _) (v := undef) (by simp only [List.getElem?_toArray, List.getElem?_cons_succ, List.getElem?_cons_zero]; rfl) (by kernel_rfl) (by kernel_rfl) (by kernel_rfl) (by exact fun _ _ _ h => h) (Or.inr ⟨by rfl, rfl⟩) (by assumption) ?_
                try simp only [Act.put, List.setIfInBounds_toArray, List.set_cons_zero, List.set_cons_succ]
                first
                  | (refine wpAnyH_take (i := 24) (oi := _) (v := ?vop93) (by simp only [List.getElem?_toArray, List.getElem?_cons_succ, List.getElem?_cons_zero]; rfl) (by kernel_rfl) (by kernel_rfl) (by kernel_rfl) (by exact fun _ _ _ h => h) (Or.inl ⟨by rfl, ?hyop93⟩) (by assumption) ?restop93
                     case hyop93 => (intro w hSw; (try dsimp only at hSw); go_simp; try (with_reducible rfl)))
                  | refine wpAnyH_take (i := 24) (oi := _) (v := undef) (by simp only [List.getElem?_toArray, List.getElem?_cons_succ, List.getElem?_cons_zero]; rfl) (by kernel_rfl) (by kernel_rfl) (by kernel_rfl) (by exact fun _ _ _ h => h) (Or.inr ⟨by rfl, rfl⟩) (by assumption) ?_
                try simp only [Act.put, List.setIfInBounds_toArray, List.set_cons_zero, List.set_cons_succ]
                refine wpAnyH_done (by kernel_rfl) ?_ _
                go_wp2
                go_roundw
                case rel => exact ⟨k + 1, m + 1, B, O5, by omega, by go_num, by omega, by omega, HPX.out.ext (by  first | exact gr_drewN _ _ _ | exact gr_none (gr_drew _ _) (gr_drew _ _) | exact gr_drew _ _), HB6.out.ext (by  first | exact gr_drewN _ _ _ | exact gr_none (gr_drew _ _) (gr_drew _ _) | exact gr_drew _ _)⟩
                case measure => simp [intOf] <;> omega
          · as_aux_lemma =>
              obtain ⟨e1, -, -, e2⟩ := stepF_eq HST.out
              have e1' : F8 = B.map Bk.fz := e1
              have HPX : Hid (PF w1 d p O5 (B.map Bk.fz) [] (m + 1) w6) := by have := HP6.out; rw [e1'] at this; exact this
              clear e1 e2 e1' HIX HST HP6
              go_wp2_with fail
              go_roundw
              case rel => exact ⟨k + 1, m + 1, B, O5, by omega, by go_num, by omega, by omega, HPX.out, HB6.out⟩
              case measure => simp [intOf] <;> omega
      · obtain rfl : k = l.length := by omega
        rename World => wr
        have HPF := Lib.hid hpf
        have HB := Lib.hid hbl0
        have hm150 : m ≤ 150 := by omega
        have hB150 : B.length ≤ 150 := by omega
        have HSM : Hid (sumF (B.map Bk.fz) ≤ m) := hpf.sum
        have HWF : Hid (Wf (B.map Bk.fz)) := hpf.wf
        clear hpf hbl0 hlt hk hmk hBk
        go_wp2_with fail
        go_loopw [17, 18] (fun iv _ wz => ∃ (i m9 : Nat) (O : Own1) (L : List (List UInt8)), i ≤ B.length ∧ iv = .int .i64 i ∧ m9 ≤ m + i ∧ PF w1 d p O (B.map Bk.fz) L m9 wz ∧ BkL w1 wz O (.slice Al B.length cl) B ∧ ∀ s ∈ (B.take i).map Bk.n, s ∈ L) (fun iv _ _ => B.length - (intOf iv).toNat)
        case atStart => exact ⟨0, m, O, [], Nat.zero_le _, rfl, by omega, HPF.out, HB.out, fun s hs => by simp at hs⟩
        case round =>
          obtain ⟨i, m9, O9, L9, hi, rfl, hm9, hp9, hb9, hL9⟩ := hrel
          rename World => wz
          by_cases hil : i < B.length
          · as_aux_lemma =>
              obtain ⟨gl, offl, Ap, cp, rfl, hcl, c0, -, -⟩ := hb9.cells hil
              obtain ⟨nmi, hnmi⟩ : ∃ nmi, nmi = B[i].n := ⟨_, rfl⟩
              have hmem : nmi ∈ namesF (B.map Bk.fz) := by rw [names_l, hnmi]; exact List.mem_map.2 ⟨_, List.getElem_mem hil, rfl⟩
              obtain ⟨he0, hlen⟩ := hp9.err0 hmem
              have hfl9 := hp9.flush (n := nmi) (by omega) hlen
              rw [he0, if_pos rfl] at hfl9
              have HFL9 := Lib.hid hfl9
              have HB9 := Lib.hid hb9
              have HL9 : Hid (∀ s ∈ (B.take (i + 1)).map Bk.n, s ∈ nmi :: L9) := fun s hs => by
                rw [List.take_succ_eq_append_getElem hil, List.map_append] at hs
                rcases List.mem_append.1 hs with hs | hs
                · exact List.mem_cons_of_mem _ (hL9 s hs)
                · rw [hnmi]
                  have : s = B[i].n := by simpa using hs
                  rw [this]; simp
              rw [← hnmi] at c0
              have hik : (0 : Int) ≤ (i : Int) := by omega
              have hik2 : (i : Int) < (B.length : Int) := by omega
              clear hp9 hb9 hL9 hfl9 hnmi hmem he0 hlen
              go_wp2_with fail
              refine HFL9.out.mono ?_
              rintro e w6 ⟨rfl, O6, h6, ch6⟩
              have H6 := Lib.hid h6
              have HB6 := Lib.hid (HB9.out.ch ch6)
              clear h6 ch6 HFL9 HB9
              go_wp2_with fail
              go_roundw
              case rel => exact ⟨i + 1, m9 + 1, O6, _, by omega, by go_num, by omega, H6.out, HB6.out, HL9.out⟩
              case measure => simp [intOf] <;> omega
          · obtain rfl : i = B.length := by omega
            rw [List.take_length] at hL9
            obtain ⟨o, ho, hd0⟩ := hp9.lost fun s hs => hL9 s (by rw [← names_l]; exact hs)
            have HB9 : Hid (BkL w1 wz o (.slice Al B.length cl) B) := hb9.loose ho
            have HD0 := Lib.hid hd0
            have hm300 : m9 ≤ 300 := by omega
            clear hp9 hb9 hL9 ho hd0
            go_wp2_with fail
            refine HD0.out.arm.mono ?_
            rintro e w6 ⟨rfl, o6, h6, ch6⟩
            have HD6 := Lib.hid h6
            have HB6 := Lib.hid (HB9.out.ch ch6)
            clear h6 ch6 HD0 HB9
            go_wp2_with fail
            refine (HD6.out.create (by omega) [122] (by simp)).mono ?_
            rintro e w7 ⟨rfl, o7, h7, ch7⟩
            have HD7 := Lib.hid h7
            have HB7 := Lib.hid (HB6.out.ch ch7)
            clear h7 ch7 HD6 HB6
            go_wp2_with fail
            refine (HD7.out.on (by omega)).mono ?_
            rintro e w8 ⟨rfl, o8, h8, ch8⟩
            have HD8 := Lib.hid h8
            have HB8 := Lib.hid (HB7.out.ch ch8)
            clear h8 ch8 HD7 HB7
            go_wp2_with fail
            refine HD8.out.new.mono ?_
            rintro e w9 ⟨q, Oq, rfl, h9, ch9⟩
            have HP9 := Lib.hid h9
            have HB9 := Lib.hid (HB8.out.ch ch9)
            clear h9 ch9 HD8 HB8
            go_wp2_with fail
            go_loopw [20, 21, 22, 23, 24, 25] (fun iv _ _ _ _ _ wz => ∃ (i m8 : Nat) (O : Own1), i ≤ B.length ∧ iv = .int .i64 i ∧ m8 ≤ 300 + sumF ((B.map Bk.fz).take i) ∧ PF w1 d q O (B.map Bk.fz) [] m8 wz ∧ BkL w1 wz O (.slice Al B.length cl) B) (fun iv _ _ _ _ _ _ => B.length - (intOf iv).toNat)
            case atStart => exact ⟨0, m9, Oq, Nat.zero_le _, rfl, by omega, HP9.out, HB9.out⟩
            case round =>
              obtain ⟨i, m8, O8, hi, rfl, hm8, hp8, hb8⟩ := hrel
              rename World => wy
              have hsum := sumF_le (B.map Bk.fz) i
              have hsm := HSM.out
              by_cases hil : i < B.length
              · obtain ⟨gl, offl, Ap, cp, rfl, hcl, c0, c1, -⟩ := hb8.cells hil
                obtain ⟨hx1, hx2, -⟩ := ix_has (n := B[i].n) HWF.out hil rfl
                have hstep := sumF_step (F := B.map Bk.fz) (i := i) (by rw [List.length_map]; exact hil)
                rw [List.getElem_map] at hstep
                have hmem : B[i].n ∈ namesF (B.map Bk.fz) := by rw [names_l]; exact List.mem_map.2 ⟨_, List.getElem_mem hil, rfl⟩
                have hlen := (hp8.err0 hmem).2
                have hpg := hp8.pages (n := B[i].n) hlen
                rw [hx1, hx2, List.length_map] at hpg
                have hpl : B[i].L.length ≤ 150 := by have := sum_mem hil; omega
                have hstep2 : sumF ((B.map Bk.fz).take (i + 1)) = sumF ((B.map Bk.fz).take i) + B[i].L.length := by
                  rw [hstep]
                  show _ + (B[i].L.map Prod.snd).length = _
                  rw [List.length_map]
                obtain ⟨X, hX⟩ : ∃ X, X = B[i] := ⟨_, rfl⟩
                rw [← hX] at c0 c1 hpg hlen hpl hstep2
                obtain ⟨nmi, hnmi⟩ : ∃ nmi, nmi = X.n := ⟨_, rfl⟩
                obtain ⟨pL, hpL⟩ : ∃ pL, pL = X.L := ⟨_, rfl⟩
                rw [← hpL] at c1 hpg hpl hstep2
                rw [← hnmi] at c0 hpg hlen
                have HX : Hid (B[i]'hil = X ∧ X.n = nmi ∧ X.L = pL) := ⟨hX.symm, hnmi.symm, hpL.symm⟩
                have HLN := Lib.hid hlen
                have HST := Lib.hid hstep2
                have HPG := Lib.hid hpg
                have HP8 := Lib.hid hp8
                have HB8 := Lib.hid hb8
                have hik : (0 : Int) ≤ (i : Int) := by omega
                have hik2 : (i : Int) < (B.length : Int) := by omega
                clear hp8 hb8 hx1 hx2 hstep hstep2 hmem hlen hpg hX hnmi hpL
                go_wp2_with fail
                refine HPG.out.mono ?_
                rintro e w10 ⟨rfl, g10⟩
                have HP10 := Lib.hid (HP8.out.ext g10)
                have HB10 := Lib.hid (HB8.out.ext g10)
                have c1' : w10.cell? ⟨gl, offl + i * 2 + 1, none⟩ = some (.slice Ap pL.length cp) := g10.cell c1 (by simp)
                clear g10 HPG HP8 HB8 c0 c1
                go_wp2_with fail
                go_loopw [23, 24, 25] (fun kv _ _ wz => ∃ (K m7 : Nat) (O : Own1), K ≤ pL.length ∧ kv = .int .i64 K ∧ m7 ≤ m8 + K ∧ PF w1 d q O (B.map Bk.fz) [] m7 wz ∧ BkL w1 wz O (.slice (some ⟨gl, offl, none⟩) B.length cl) B) (fun kv _ _ _ => pL.length - (intOf kv).toNat)
                case atStart => exact ⟨0, m8, O8, Nat.zero_le _, rfl, by omega, HP10.out, HB10.out⟩
                case round =>
                  obtain ⟨K, m7, O7, hK, rfl, hm7, hp7, hb7⟩ := hrel
                  rename World => wx
                  by_cases hKl : K < pL.length
                  · as_aux_lemma =>
                      obtain ⟨gl', offl', Ap2, cp2, ea, -, c0, -, -⟩ := hb7.cells hil
                      cases ea
                      obtain ⟨hX1, hX2, hX3⟩ := HX.out
                      have hKx : K < (B[i]'hil).L.length := by rw [hX1, hX3]; exact hKl
                      have hrd := read_at HWF.out hil (n := nmi) (by rw [hX1]; exact hX2) hKx
                      have hqe : (B[i]'hil).L[K]'hKx = pL[K]'hKl := by
                        have : (B[i]'hil).L[K]? = pL[K]? := by rw [hX1, hX3]
                        rw [List.getElem?_eq_getElem hKx, List.getElem?_eq_getElem hKl] at this
                        exact Option.some.inj this
                      rw [hqe] at hrd
                      have hc0 : (B[i]'hil).n = nmi := by rw [hX1]; exact hX2
                      rw [hc0] at c0
                      have hpgK := (hb7.ok (B[i]'hil) (List.getElem_mem hil)).pg (pL[K]'hKl) (by rw [← hqe]; exact List.getElem_mem hKx)
                      obtain ⟨⟨qv, qb⟩, hq⟩ : ∃ x, x = pL[K]'hKl := ⟨_, rfl⟩
                      rw [← hq] at hrd hpgK
                      have hre := hp7.read (n := nmi) (k := (K : Int)) (by omega) HLN.out (by omega)
                      rw [hrd] at hre
                      have HRE := Lib.hid hre
                      have HQ : Hid ((qv, qb) = pL[K]'hKl) := hq
                      have HPK : Hid (RdB w1 qv qb) := hpgK
                      have HB7 := Lib.hid hb7
                      have hKi : (K : Int) < (pL.length : Int) := by omega
                      have hK0 : (0 : Int) ≤ (K : Int) := by omega
                      clear hp7 hb7 hX1 hX2 hX3 hKx hrd hqe hc0 hpgK hq hre
                      go_wp2_with fail
                      refine HRE.out.mono ?_
                      rintro e w11 ⟨vb, rfl, ho11, O11, h11, ch11, -⟩
                      obtain ⟨Av, cv, rfl⟩ := RdB.form ho11.rd
                      have hb11 := HB7.out.ch ch11
                      obtain ⟨gl', offl', Ap3, cp3, ea, -, -, c1, hr3⟩ := hb11.cells hil
                      cases ea
                      obtain ⟨hX1, hX2, hX3⟩ := HX.out
                      have hLL : (B[i]'hil).L = pL := by rw [hX1]; exact hX3
                      rw [hLL] at c1 hr3
                      obtain ⟨_, _, _, gp, offp, ep, hcp, -, -, hAp, hxp⟩ := hr3
                      cases ep
                      obtain rfl := hAp (by omega)
                      have p1 : w11.cell? ⟨gp, offp + K, none⟩ = some qv := by rw [hxp K (by omega), List.getElem?_map, List.getElem?_eq_getElem hKl, ← HQ.out]; rfl
                      have hqr : RdB w11 qv qb := HPK.out.ext h11.gr
                      obtain ⟨Aq, cq, rfl⟩ := RdB.form hqr
                      have HEQ := Lib.hid (eqBytes_any _ _ qb qb w11 ho11.rd hqr)
                      have H11 := Lib.hid h11
                      have HB11 := Lib.hid hb11
                      clear ho11 h11 ch11 hb11 hX1 hX2 hX3 hLL hxp hqr HRE HB7 c0
                      go_wp2_with fail
                      refine HEQ.out.mono ?_
                      rintro e w12 ⟨rfl, rfl⟩
                      rw [beq_self_eq_true]
                      go_wp2_with fail
                      go_roundw
                      case rel => exact ⟨K + 1, m7 + 1, O11, by omega, by go_num, by omega, H11.out, HB11.out⟩
                      case measure => simp [intOf] <;> omega
                  · as_aux_lemma =>
                      obtain rfl : K = pL.length := by omega
                      have HP7 := Lib.hid hp7
                      have HB7 := Lib.hid hb7
                      have hsx := HST.out
                      have hm9 : m7 ≤ 300 + sumF ((B.map Bk.fz).take (i + 1)) := by omega
                      clear hp7 hb7
                      go_wp2_with fail
                      go_roundw
                      case rel => exact ⟨i + 1, m7, O7, by omega, by go_num, hm9, HP7.out, HB7.out⟩
                      case measure => simp [intOf] <;> omega
              · as_aux_lemma =>
                  have HG := Lib.hid (gr_none G1.out hp8.gr)
                  clear hp8 hb8
                  go_wp2_with fail
                  refine (HWK.out wy).mono ?_
                  rintro e w12 ⟨rfl, g12⟩
                  have G12 := Lib.hid g12
                  clear g12 HWK
                  go_wp2_with fail
                  go_ret
                  exact ⟨rfl, gr_none HG.out G12.out⟩
end Go.Proofs.YtkpmadahfmpeiaaGreat
