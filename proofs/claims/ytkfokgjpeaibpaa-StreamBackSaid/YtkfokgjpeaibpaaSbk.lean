/-
  StreamBack: the walk.
-/
import Derived.Test.YtkfokgjpeaibpaaSbk0
namespace Go.Proofs.Ytkfokgjpeaibpaa
open Go.RowKit Go.Maps
set_option maxRecDepth 100000
set_option maxHeartbeats 400000

set_option maxHeartbeats 8000000 in
theorem sback_any (fr sz : Int) (v : Value) (l : List OpT) (w : World) (h : RdT w v l) : Calls Try.prog 7 #[.int .i64 fr, .int .i64 sz, v] w fun e w' => e = .returned (.bool true) ∧ w.grownBy w' none := by
  have HV := Lib.hid (vastT_any fr v l w h)
  have HWK := Lib.hid (works11_any w)
  by_cases hbad : vastT fr l = true ∨ fr < 1 ∨ sz < 1 ∨ 240 < sz
  · obtain ⟨A, c, rfl⟩ := h.form
    clear h
    by_cases hv : vastT fr l = true
    · go_enter Try.func7, Try.ntmps7
      go_wp2_with fail
      refine HV.out.mono ?_
      rintro e w9 ⟨rfl, rfl⟩
      rw [hv]
      go_wp2_with fail
      refine HWK.out.mono ?_
      rintro e w9 ⟨rfl, g9⟩
      have G9 := Lib.hid g9
      clear g9 HWK
      go_wp2_with fail
      go_ret
      exact ⟨rfl, G9.out⟩
    · have hv2 : vastT fr l = false := by simpa using hv
      by_cases h1 : fr < 1
      · go_enter Try.func7, Try.ntmps7
        go_wp2_with fail
        refine HV.out.mono ?_
        rintro e w9 ⟨rfl, rfl⟩
        rw [hv2]
        go_wp2_with fail
        refine HWK.out.mono ?_
        rintro e w9 ⟨rfl, g9⟩
        have G9 := Lib.hid g9
        clear g9 HWK
        go_wp2_with fail
        go_ret
        exact ⟨rfl, G9.out⟩
      · by_cases h2 : sz < 1
        · go_enter Try.func7, Try.ntmps7
          go_wp2_with fail
          refine HV.out.mono ?_
          rintro e w9 ⟨rfl, rfl⟩
          rw [hv2]
          go_wp2_with fail
          refine HWK.out.mono ?_
          rintro e w9 ⟨rfl, g9⟩
          have G9 := Lib.hid g9
          clear g9 HWK
          go_wp2_with fail
          go_ret
          exact ⟨rfl, G9.out⟩
        · have h3 : 240 < sz := by
            rcases hbad with h | h | h | h
            · exact absurd h hv
            · exact absurd h h1
            · exact absurd h h2
            · exact h
          go_enter Try.func7, Try.ntmps7
          go_wp2_with fail
          refine HV.out.mono ?_
          rintro e w9 ⟨rfl, rfl⟩
          rw [hv2]
          go_wp2_with fail
          refine HWK.out.mono ?_
          rintro e w9 ⟨rfl, g9⟩
          have G9 := Lib.hid g9
          clear g9 HWK
          go_wp2_with fail
          go_ret
          exact ⟨rfl, G9.out⟩
  · have hv : vastT fr l = false := by simpa using fun e => hbad (.inl e)
    obtain ⟨hf1, hs1, hs2⟩ : 1 ≤ fr ∧ 1 ≤ sz ∧ sz ≤ 240 := by omega
    obtain ⟨hn, hf2, hsum⟩ := vastT_no hv
    obtain ⟨F, rfl⟩ : ∃ F : Nat, fr = (F : Int) := ⟨fr.toNat, by omega⟩
    obtain ⟨s, rfl⟩ : ∃ s : Nat, sz = (s : Int) := ⟨sz.toNat, by omega⟩
    have HBG := Lib.hid (begun_st w F s (by omega) (by omega) (by omega) (by omega))
    have HSZ := Lib.hid (And.intro hs1 hs2)
    have HN := Lib.hid hn
    obtain ⟨A, c, rfl⟩ := h.form
    have HRT := Lib.hid h
    have HSUM := Lib.hid hsum
    have d1 : decide ((F : Int) < 1) = false := by simp; omega
    have d2 : decide ((s : Int) < 1) = false := by simp; omega
    have d3 : decide ((240 : Int) < (s : Int)) = false := by simp; omega
    clear hbad h hsum hn hf1 hf2 hs1 hs2
    go_enter Try.func7, Try.ntmps7
    go_wp2_with fail
    refine HV.out.mono ?_
    rintro e w9 ⟨rfl, rfl⟩
    rw [hv]
    rename World => w
    go_wp2_with fail
    refine HBG.out.mono ?_
    rintro e w1 ⟨d, p, sb, O, rfl, h1⟩
    have hbk : BK w d p sb s (.slice none 0 0) [] [] 1 w1 := ⟨⟨O, h1, fun q e => by cases e⟩, Own.nil _ _ _, fun x hx => (by cases hx), fun e => (by cases e)⟩
    have HK := Lib.hid hbk
    clear h1 hbk HBG HV
    go_wp2_with fail
    have hnn := HN.out
    clear hv d1 d2 d3
    go_loopw [10, 11, 12, 13, 14, 15] (fun lv iv _ _ _ _ wr => ∃ (k : Nat) (L : List (Value × List UInt8)), k ≤ l.length ∧ iv = .int .i64 k ∧ L.length ≤ k ∧ BK w d p sb s lv L (L.map Prod.snd) (1 + 2 * k) wr) (fun _ iv _ _ _ _ _ => l.length - (intOf iv).toNat)
    case atStart => exact ⟨0, [], Nat.zero_le _, rfl, Nat.le_refl _, HK.out⟩
    case round =>
      obtain ⟨k, L, hk, rfl, hL, hbk⟩ := hrel
      obtain ⟨Al, cl, rfl⟩ := hbk.form
      by_cases hlt : k < l.length
      · obtain ⟨g, off, hA, hcap, hmx, hcells⟩ := (HRT.out.ext hbk.gr).at_
        obtain rfl := hA (by omega)
        have hok := HRT.out.2 l[k] (List.getElem_mem hlt)
        have hbl := opTW_small (Nat.le_trans (opTW_le l[k] (List.getElem_mem hlt)) HSUM.out)
        have hc := hcells k hlt
        obtain ⟨⟨kd, i, bv, b⟩, hx⟩ : ∃ o, o = l[k] := ⟨_, rfl⟩
        rw [← hx] at hc hok hbl
        obtain ⟨Ab, cb, rfl⟩ : ∃ Ab cb, bv = .slice Ab b.length cb := hok.b.form
        have c0 : wr.cell? ⟨g, off + k * 3, none⟩ = some (.int .i64 kd) := hc 0 (by omega)
        have c1 : wr.cell? ⟨g, off + k * 3 + 1, none⟩ = some (.int .i64 i) := hc 1 (by omega)
        have c2 : wr.cell? ⟨g, off + k * 3 + 2, none⟩ = some (.slice Ab b.length cb) := hc 2 (by omega)
        have HB : Hid (RdB w (.slice Ab b.length cb) b) := hok.b
        have HI : Hid (-9223372036854775808 ≤ i ∧ i ≤ 9223372036854775807) := hok.i
        have HBL : Hid (b.length ≤ 65536) := hbl
        have HBK := Lib.hid hbk
        have hbc : b.length ≤ maxLen := by unfold maxLen; have : b.length ≤ 65536 := hbl; omega
        have b12 := Blk.new wr 59 #[.int .i64 kd, .int .i64 i, .slice Ab b.length cb]
        obtain ⟨w1, hw1⟩ : ∃ w1, w1 = wr.alloc (.cells #[.int .i64 kd, .int .i64 i, .slice Ab b.length cb] 59) := ⟨_, rfl⟩
        rw [← hw1] at b12
        have g1 : wr.grownBy w1 none := by rw [hw1]; exact gr_alloc _ _ none
        obtain ⟨O, st, hnext⟩ := hbk.out g1
        have HB12 := Lib.hid b12
        have HST := Lib.hid st
        have HNX := Lib.hid hnext
        have HW1 := Lib.hid hw1
        clear hc hok hbl hx hcells hbk b12 hw1 g1 st hnext
        by_cases k4 : kd = 4
        · subst k4
          clear HB HI HBL HST HNX HW1 HB12
          go_wp2_with fail
          go_roundw
          case rel => exact ⟨k + 1, L, by omega, by go_num, by omega, (HBK.out.ext (gr_alloc _ _ none)).more (by omega) (by omega)⟩
          case measure => simp [intOf] <;> omega
        by_cases k6 : kd = 6
        · subst k6
          clear HB HI HBL HST HNX HW1 HB12
          go_wp2_with fail
          go_roundw
          case rel => exact ⟨k + 1, L, by omega, by go_num, by omega, (HBK.out.ext (gr_alloc _ _ none)).more (by omega) (by omega)⟩
          case measure => simp [intOf] <;> omega
        by_cases k0 : kd = 0
        · subst k0
          have hd := tdoes_len HST.out (by omega) (by rw [List.length_map]; omega) i (.slice Ab b.length cb)
          rw [HW1.out, List.length_map] at hd
          have HD := Lib.hid hd
          clear hd
          go_wp2_with fail
          refine HD.out.mono ?_
          rintro e w2 ⟨rfl, hst2⟩
          rw [← HW1.out] at hst2
          obtain ⟨hbk2, hb2⟩ := HNX.out _ _ _ hst2
          have hc12 := ((hb2 _ _ _ (Nat.le_refl _) HB12.out).ext (gr_alloc w2 (.cells #[.slice none 0 0, .int .i64 L.length, .int .i64 0] 61) none)).cell
          have HK2 := Lib.hid hbk2
          clear hst2 hbk2 hb2 HD HB HI HBL HST HNX HW1 HB12 HBK
          go_wp2_with fail
          go_roundw
          case rel => exact ⟨k + 1, L, by omega, by go_num, by omega, (HK2.out.ext (gr_alloc _ _ none)).more (by omega) (by omega)⟩
          case measure => simp [intOf] <;> omega
        by_cases k1 : kd = 1
        · subst k1
          have hd := tdoes_get HST.out (by omega) (by rw [List.length_map]; omega) HI.out (.slice Ab b.length cb)
          rw [HW1.out, List.length_map] at hd
          have HD := Lib.hid hd
          clear hd
          go_wp2_with fail
          refine HD.out.mono ?_
          rintro e w2 ⟨v2, er, r, rfl, hr2, hans, hst2⟩
          rw [← HW1.out] at hst2
          obtain ⟨A2, c9, rfl⟩ := RdB.form hr2
          obtain ⟨hbk2, hb2⟩ := HNX.out _ _ _ hst2
          have g3 := gr_alloc w2 (.cells #[.slice A2 r.length c9, .int .i64 0, .int .i64 er] 61) none
          have hc12 := ((hb2 _ _ _ (Nat.le_refl _) HB12.out).ext g3).cell
          have hc13 := (Blk.new w2 61 #[.slice A2 r.length c9, .int .i64 0, .int .i64 er]).cell
          have HK2 := Lib.hid (hbk2.ext g3)
          have HR2 := Lib.hid (RdB.ext hr2 g3)
          have HANS := Lib.hid hans
          clear hst2 hbk2 hb2 hr2 g3 hans HD HB HI HBL HST HNX HW1 HB12 HBK
          by_cases hin : 0 ≤ i ∧ i < L.length
          · obtain ⟨j, rfl⟩ : ∃ j : Nat, i = (j : Int) := ⟨i.toNat, by omega⟩
            have hj : j < L.length := by omega
            obtain ⟨hrj, rfl⟩ : L[j].2 = r ∧ er = 0 := by
              rcases HANS.out with ⟨_, q2, q3⟩ | ⟨q1, _⟩
              · rw [Int.toNat_natCast, List.getElem?_map, List.getElem?_eq_getElem hj] at q2
                exact ⟨Option.some.inj q2, q3⟩
              · exact absurd hin q1
            obtain ⟨g7, off7, hA7, hc7, hcell7, hrd7⟩ := HK2.out.at_ hj
            rw [hrj] at hrd7
            obtain ⟨x7, hx7⟩ : ∃ x, x = L[j].1 := ⟨_, rfl⟩
            rw [← hx7] at hcell7 hrd7
            obtain ⟨A7, c71, rfl⟩ := RdB.form hrd7
            subst hA7
            have hcl : (j : Int) < (L.length : Int) := hin.2
            have hc0 : (0 : Int) ≤ (j : Int) := by omega
            obtain ⟨w3, hw3⟩ : ∃ w3, w3 = w2.alloc (.cells #[.slice A2 r.length c9, .int .i64 0, .int .i64 0] 61) := ⟨_, rfl⟩
            have HEQ : Hid (∀ wx, w3.grownBy wx none → Calls Try.prog 12 #[.slice A2 r.length c9, .slice A7 r.length c71] wx fun e w' => e = .returned (.bool true) ∧ wx = w') := fun wx hx => by
              have := eqBytes_any _ _ r r wx (HR2.out.ext (hw3 ▸ hx)) (hrd7.ext (hw3 ▸ hx))
              rw [beq_self_eq_true] at this
              exact this
            have e120 : w3.cell? ⟨wr.heap.size, 0, none⟩ = some (.int .i64 1) := by rw [hw3]; exact hc12 0
            have e121 : w3.cell? ⟨wr.heap.size, 1, none⟩ = some (.int .i64 j) := by rw [hw3]; exact hc12 1
            have e130 : w3.cell? ⟨w2.heap.size, 0, none⟩ = some (.slice A2 r.length c9) := by rw [hw3]; exact hc13 0
            have e132 : w3.cell? ⟨w2.heap.size, 2, none⟩ = some (.int .i64 0) := by rw [hw3]; exact hc13 2
            have e7 : w3.cell? ⟨g7, off7 + j, none⟩ = some (.slice A7 r.length c71) := by rw [hw3]; exact hcell7
            have HK3 : Hid (BK w d p sb s (.slice (some ⟨g7, off7, none⟩) L.length cl) L (L.map Prod.snd) (1 + 2 * k + 1) w3) := by show BK _ _ _ _ _ _ _ _ _ _; rw [hw3]; exact HK2.out
            have hc12' : ∀ q, (w2.alloc (.cells #[.slice A2 r.length c9, .int .i64 0, .int .i64 0] 61)).cell? ⟨wr.heap.size, q, none⟩ = #[.int .i64 1, .int .i64 j, .slice Ab b.length cb][q]? := hc12
            have hc13' : ∀ q, (w2.alloc (.cells #[.slice A2 r.length c9, .int .i64 0, .int .i64 0] 61)).cell? ⟨w2.heap.size, q, none⟩ = #[.slice A2 r.length c9, .int .i64 0, .int .i64 0][q]? := hc13
            have hcell7' : (w2.alloc (.cells #[.slice A2 r.length c9, .int .i64 0, .int .i64 0] 61)).cell? ⟨g7, off7 + j, none⟩ = some (.slice A7 r.length c71) := hcell7
            have HW3 := Lib.hid hw3
            have HE := Lib.hid (And.intro e120 (And.intro e121 (And.intro e130 (And.intro e132 e7))))
            clear hw3 e120 e121 e130 e132 e7 HK2 HR2 HANS hrd7 hx7 hrj hc12 hc13 hcell7
            go_wp2_with fail
            rw [← HW3.out]
            clear hc12' hc13' hcell7'
            obtain ⟨e120, e121, e130, e132, e7⟩ := HE.out
            go_region_held3 (fun w' => w'.cell? ⟨wr.heap.size, 0, none⟩ = some (.int .i64 1) ∧ w'.cell? ⟨wr.heap.size, 1, none⟩ = some (.int .i64 j) ∧ w'.cell? ⟨w2.heap.size, 0, none⟩ = some (.slice A2 r.length c9) ∧ w'.cell? ⟨w2.heap.size, 2, none⟩ = some (.int .i64 0) ∧ w'.cell? ⟨g7, off7 + j, none⟩ = some (.slice A7 r.length c71))
              (first | exact HE.out | go_keep)
              (first
              | (go_at_call 12; refine (HEQ.out _ (by first | exact gr_refl _ _ | exact gr_drew _ _ | exact gr_drewN _ _ _)).mono ?_; rintro e w5 ⟨rfl, rfl⟩))
            have HKF := Lib.hid (HK3.out.ext (gr_drew w3 none))
            go_wp2_with fail
            exact ⟨⟨k + 1, L, by omega, by go_num, by omega, HKF.out.more (by omega) (by omega)⟩, by simp [intOf]; omega⟩
          · have her : er ≠ 0 := by
              rcases HANS.out with ⟨q1, q2, _⟩ | ⟨_, q2, _⟩
              · exact absurd ⟨q1, by
                  have := (List.getElem?_eq_some_iff.1 q2).1
                  rw [List.length_map] at this
                  omega⟩ hin
              · exact q2
            have her2 : ((er : Int) == 0) = false := by rw [beq_eq_false_iff_ne]; omega
            obtain ⟨w3, hw3⟩ : ∃ w3, w3 = w2.alloc (.cells #[.slice A2 r.length c9, .int .i64 0, .int .i64 er] 61) := ⟨_, rfl⟩
            have e120 : w3.cell? ⟨wr.heap.size, 0, none⟩ = some (.int .i64 1) := by rw [hw3]; exact hc12 0
            have e121 : w3.cell? ⟨wr.heap.size, 1, none⟩ = some (.int .i64 i) := by rw [hw3]; exact hc12 1
            have e130 : w3.cell? ⟨w2.heap.size, 0, none⟩ = some (.slice A2 r.length c9) := by rw [hw3]; exact hc13 0
            have e132 : w3.cell? ⟨w2.heap.size, 2, none⟩ = some (.int .i64 er) := by rw [hw3]; exact hc13 2
            have HK3 : Hid (BK w d p sb s (.slice Al L.length cl) L (L.map Prod.snd) (1 + 2 * k + 1) w3) := by show BK _ _ _ _ _ _ _ _ _ _; rw [hw3]; exact HK2.out
            have HW3 := Lib.hid hw3
            have HE := Lib.hid (And.intro e120 (And.intro e121 (And.intro e130 e132)))
            clear hw3 e120 e121 e130 e132 HK2 HR2 HANS
            by_cases hneg : i < 0
            · have hneg2 : ¬ 0 ≤ i := by omega
              clear hin
              go_wp2_with fail
              rw [← HW3.out]
              clear hc12 hc13
              obtain ⟨e120, e121, e130, e132⟩ := HE.out
              refine wp_region_held_drew (S := fun w' => w'.cell? ⟨wr.heap.size, 0, none⟩ = some (.int .i64 1) ∧ w'.cell? ⟨wr.heap.size, 1, none⟩ = some (.int .i64 i) ∧ w'.cell? ⟨w2.heap.size, 0, none⟩ = some (.slice A2 r.length c9) ∧ w'.cell? ⟨w2.heap.size, 2, none⟩ = some (.int .i64 er)) (by kernel_rfl) ?_ (fun hHeld => ?_)
              · ((try dsimp only); exact HE.out)
              first
                | (refine wpAnyH_take (i := 0) (oi := _) (v := ?vop1) (by simp only [List.getElem?_toArray, List.getElem?_cons_zero]; rfl) (by kernel_rfl) (by kernel_rfl) (by kernel_rfl) (by exact fun _ _ _ h => h) (Or.inl ⟨by rfl, ?hyop1⟩) (by assumption) ?restop1
                   case hyop1 => (intro w hSw; (try dsimp only at hSw); go_simp; try (with_reducible rfl)))
                | refine wpAnyH_take (i := 0) (oi := _) (v := undef) (by simp only [List.getElem?_toArray, List.getElem?_cons_zero]; rfl) (by kernel_rfl) (by kernel_rfl) (by kernel_rfl) (by exact fun _ _ _ h => h) (Or.inr ⟨by rfl, rfl⟩) (by assumption) ?_
              try simp only [Act.put, List.setIfInBounds_toArray, List.set_cons_zero, List.set_cons_succ]
              first
                | (refine wpAnyH_take (i := 1) (oi := _) (v := ?vop2) (by simp only [List.getElem?_toArray, List.getElem?_cons_succ, List.getElem?_cons_zero]; rfl) (by kernel_rfl) (by kernel_rfl) (by kernel_rfl) (by exact fun _ _ _ h => h) (Or.inl ⟨by rfl, ?hyop2⟩) (by assumption) ?restop2
                   case hyop2 => (intro w hSw; (try dsimp only at hSw); go_simp; try (with_reducible rfl)))
                | refine wpAnyH_take (i := 1) (oi := _) (v := undef) (by simp only [List.getElem?_toArray, List.getElem?_cons_succ, List.getElem?_cons_zero]; rfl) (by kernel_rfl) (by kernel_rfl) (by kernel_rfl) (by exact fun _ _ _ h => h) (Or.inr ⟨by rfl, rfl⟩) (by assumption) ?_
              try simp only [Act.put, List.setIfInBounds_toArray, List.set_cons_zero, List.set_cons_succ]
              first
                | (refine wpAnyH_take (i := 2) (oi := _) (v := ?vop3) (by simp only [List.getElem?_toArray, List.getElem?_cons_succ, List.getElem?_cons_zero]; rfl) (by kernel_rfl) (by kernel_rfl) (by kernel_rfl) (by exact fun _ _ _ h => h) (Or.inl ⟨by rfl, ?hyop3⟩) (by assumption) ?restop3
                   case hyop3 => (intro w hSw; (try dsimp only at hSw); go_simp; try (with_reducible rfl)))
                | refine wpAnyH_take (i := 2) (oi := _) (v := undef) (by simp only [List.getElem?_toArray, List.getElem?_cons_succ, List.getElem?_cons_zero]; rfl) (by kernel_rfl) (by kernel_rfl) (by kernel_rfl) (by exact fun _ _ _ h => h) (Or.inr ⟨by rfl, rfl⟩) (by assumption) ?_
              try simp only [Act.put, List.setIfInBounds_toArray, List.set_cons_zero, List.set_cons_succ]
              first
                | (refine wpAnyH_take (i := 3) (oi := _) (v := ?vop4) (by simp only [List.getElem?_toArray, List.getElem?_cons_succ, List.getElem?_cons_zero]; rfl) (by kernel_rfl) (by kernel_rfl) (by kernel_rfl) (by exact fun _ _ _ h => h) (Or.inl ⟨by rfl, ?hyop4⟩) (by assumption) ?restop4
                   case hyop4 => (intro w hSw; (try dsimp only at hSw); go_simp; try (with_reducible rfl)))
                | refine wpAnyH_take (i := 3) (oi := _) (v := undef) (by simp only [List.getElem?_toArray, List.getElem?_cons_succ, List.getElem?_cons_zero]; rfl) (by kernel_rfl) (by kernel_rfl) (by kernel_rfl) (by exact fun _ _ _ h => h) (Or.inr ⟨by rfl, rfl⟩) (by assumption) ?_
              try simp only [Act.put, List.setIfInBounds_toArray, List.set_cons_zero, List.set_cons_succ]
              first
                | (refine wpAnyH_take (i := 4) (oi := _) (v := ?vop5) (by simp only [List.getElem?_toArray, List.getElem?_cons_succ, List.getElem?_cons_zero]; rfl) (by kernel_rfl) (by kernel_rfl) (by kernel_rfl) (by exact fun _ _ _ h => h) (Or.inl ⟨by rfl, ?hyop5⟩) (by assumption) ?restop5
                   case hyop5 => (intro w hSw; (try dsimp only at hSw); go_simp; try (with_reducible rfl)))
                | refine wpAnyH_take (i := 4) (oi := _) (v := undef) (by simp only [List.getElem?_toArray, List.getElem?_cons_succ, List.getElem?_cons_zero]; rfl) (by kernel_rfl) (by kernel_rfl) (by kernel_rfl) (by exact fun _ _ _ h => h) (Or.inr ⟨by rfl, rfl⟩) (by assumption) ?_
              try simp only [Act.put, List.setIfInBounds_toArray, List.set_cons_zero, List.set_cons_succ]
              first
                | (refine wpAnyH_take (i := 5) (oi := _) (v := ?vop6) (by simp only [List.getElem?_toArray, List.getElem?_cons_succ, List.getElem?_cons_zero]; rfl) (by kernel_rfl) (by kernel_rfl) (by kernel_rfl) (by exact fun _ _ _ h => h) (Or.inl ⟨by rfl, ?hyop6⟩) (by assumption) ?restop6
                   case hyop6 => (intro w hSw; (try dsimp only at hSw); go_simp; try (with_reducible rfl)))
                | refine wpAnyH_take (i := 5) (oi := _) (v := undef) (by simp only [List.getElem?_toArray, List.getElem?_cons_succ, List.getElem?_cons_zero]; rfl) (by kernel_rfl) (by kernel_rfl) (by kernel_rfl) (by exact fun _ _ _ h => h) (Or.inr ⟨by rfl, rfl⟩) (by assumption) ?_
              try simp only [Act.put, List.setIfInBounds_toArray, List.set_cons_zero, List.set_cons_succ]
              first
                | (refine wpAnyH_take (i := 6) (oi := _) (v := ?vop7) (by simp only [List.getElem?_toArray, List.getElem?_cons_succ, List.getElem?_cons_zero]; rfl) (by kernel_rfl) (by kernel_rfl) (by kernel_rfl) (by exact fun _ _ _ h => h) (Or.inl ⟨by rfl, ?hyop7⟩) (by assumption) ?restop7
                   case hyop7 => (intro w hSw; (try dsimp only at hSw); go_simp; try (with_reducible rfl)))
                | refine wpAnyH_take (i := 6) (oi := _) (v := undef) (by simp only [List.getElem?_toArray, List.getElem?_cons_succ, List.getElem?_cons_zero]; rfl) (by kernel_rfl) (by kernel_rfl) (by kernel_rfl) (by exact fun _ _ _ h => h) (Or.inr ⟨by rfl, rfl⟩) (by assumption) ?_
              try simp only [Act.put, List.setIfInBounds_toArray, List.set_cons_zero, List.set_cons_succ]
              first
                | (refine wpAnyH_take (i := 7) (oi := _) (v := ?vop8) (by simp only [List.getElem?_toArray, List.getElem?_cons_succ, List.getElem?_cons_zero]; rfl) (by kernel_rfl) (by kernel_rfl) (by kernel_rfl) (by exact fun _ _ _ h => h) (Or.inl ⟨by rfl, ?hyop8⟩) (by assumption) ?restop8
                   case hyop8 => (intro w hSw; (try dsimp only at hSw); go_simp; try (with_reducible rfl)))
                | refine wpAnyH_take (i := 7) (oi := _) (v := undef) (by simp only [List.getElem?_toArray, List.getElem?_cons_succ, List.getElem?_cons_zero]; rfl) (by kernel_rfl) (by kernel_rfl) (by kernel_rfl) (by exact fun _ _ _ h => h) (Or.inr ⟨by rfl, rfl⟩) (by assumption) ?_
              try simp only [Act.put, List.setIfInBounds_toArray, List.set_cons_zero, List.set_cons_succ]
              refine wpAnyH_take (i := 8) (oi := _) (v := undef) (by simp only [List.getElem?_toArray, List.getElem?_cons_succ, List.getElem?_cons_zero]; rfl) (by kernel_rfl) (by kernel_rfl) (by kernel_rfl) (by exact fun _ _ _ h => h) (Or.inr ⟨by rfl, rfl⟩) (by assumption) ?_
              try simp only [Act.put, List.setIfInBounds_toArray, List.set_cons_zero, List.set_cons_succ]
              refine wpAnyH_take (i := 9) (oi := _) (v := undef) (by simp only [List.getElem?_toArray, List.getElem?_cons_succ, List.getElem?_cons_zero]; rfl) (by kernel_rfl) (by kernel_rfl) (by kernel_rfl) (by exact fun _ _ _ h => h) (Or.inr ⟨by rfl, rfl⟩) (by assumption) ?_
              try simp only [Act.put, List.setIfInBounds_toArray, List.set_cons_zero, List.set_cons_succ]
              refine wpAnyH_take (i := 10) (oi := _) (v := undef) (by simp only [List.getElem?_toArray, List.getElem?_cons_succ, List.getElem?_cons_zero]; rfl) (by kernel_rfl) (by kernel_rfl) (by kernel_rfl) (by exact fun _ _ _ h => h) (Or.inr ⟨by rfl, rfl⟩) (by assumption) ?_
              try simp only [Act.put, List.setIfInBounds_toArray, List.set_cons_zero, List.set_cons_succ]
              refine wpAnyH_take (i := 11) (oi := _) (v := undef) (by simp only [List.getElem?_toArray, List.getElem?_cons_succ, List.getElem?_cons_zero]; rfl) (by kernel_rfl) (by kernel_rfl) (by kernel_rfl) (by exact fun _ _ _ h => h) (Or.inr ⟨by rfl, rfl⟩) (by assumption) ?_
              try simp only [Act.put, List.setIfInBounds_toArray, List.set_cons_zero, List.set_cons_succ]
              refine wpAnyH_take (i := 12) (oi := _) (v := undef) (by simp only [List.getElem?_toArray, List.getElem?_cons_succ, List.getElem?_cons_zero]; rfl) (by kernel_rfl) (by kernel_rfl) (by kernel_rfl) (by exact fun _ _ _ h => h) (Or.inr ⟨by rfl, rfl⟩) (by assumption) ?_
              try simp only [Act.put, List.setIfInBounds_toArray, List.set_cons_zero, List.set_cons_succ]
              refine wpAnyH_take (i := 13) (oi := _) (v := undef) (by simp only [List.getElem?_toArray, List.getElem?_cons_succ, List.getElem?_cons_zero]; rfl) (by kernel_rfl) (by kernel_rfl) (by kernel_rfl) (by exact fun _ _ _ h => h) (Or.inr ⟨by rfl, rfl⟩) (by assumption) ?_
              try simp only [Act.put, List.setIfInBounds_toArray, List.set_cons_zero, List.set_cons_succ]
              refine wpAnyH_take (i := 14) (oi := _) (v := undef) (by simp only [List.getElem?_toArray, List.getElem?_cons_succ, List.getElem?_cons_zero]; rfl) (by kernel_rfl) (by kernel_rfl) (by kernel_rfl) (by exact fun _ _ _ h => h) (Or.inr ⟨by rfl, rfl⟩) (by assumption) ?_
              try simp only [Act.put, List.setIfInBounds_toArray, List.set_cons_zero, List.set_cons_succ]
              refine wpAnyH_take (i := 15) (oi := _) (v := undef) (by simp only [List.getElem?_toArray, List.getElem?_cons_succ, List.getElem?_cons_zero]; rfl) (by kernel_rfl) (by kernel_rfl) (by kernel_rfl) (by exact fun _ _ _ h => h) (Or.inr ⟨by rfl, rfl⟩) (by assumption) ?_
              try simp only [Act.put, List.setIfInBounds_toArray, List.set_cons_zero, List.set_cons_succ]
              refine wpAnyH_take (i := 16) (oi := _) (v := undef) (by simp only [List.getElem?_toArray, List.getElem?_cons_succ, List.getElem?_cons_zero]; rfl) (by kernel_rfl) (by kernel_rfl) (by kernel_rfl) (by exact fun _ _ _ h => h) (Or.inr ⟨by rfl, rfl⟩) (by assumption) ?_
              try simp only [Act.put, List.setIfInBounds_toArray, List.set_cons_zero, List.set_cons_succ]
              first
                | (refine wpAnyH_take (i := 17) (oi := _) (v := ?vop9) (by simp only [List.getElem?_toArray, List.getElem?_cons_succ, List.getElem?_cons_zero]; rfl) (by kernel_rfl) (by kernel_rfl) (by kernel_rfl) (by exact fun _ _ _ h => h) (Or.inl ⟨by rfl, ?hyop9⟩) (by assumption) ?restop9
                   case hyop9 => (intro w hSw; (try dsimp only at hSw); go_simp; try (with_reducible rfl)))
                | refine wpAnyH_take (i := 17) (oi := _) (v := undef) (by simp only [List.getElem?_toArray, List.getElem?_cons_succ, List.getElem?_cons_zero]; rfl) (by kernel_rfl) (by kernel_rfl) (by kernel_rfl) (by exact fun _ _ _ h => h) (Or.inr ⟨by rfl, rfl⟩) (by assumption) ?_
              try simp only [Act.put, List.setIfInBounds_toArray, List.set_cons_zero, List.set_cons_succ]
              first
                | (refine wpAnyH_take (i := 18) (oi := _) (v := ?vop10) (by simp only [List.getElem?_toArray, List.getElem?_cons_succ, List.getElem?_cons_zero]; rfl) (by kernel_rfl) (by kernel_rfl) (by kernel_rfl) (by exact fun _ _ _ h => h) (Or.inl ⟨by rfl, ?hyop10⟩) (by assumption) ?restop10
                   case hyop10 => (intro w hSw; (try dsimp only at hSw); go_simp; try (with_reducible rfl)))
                | refine wpAnyH_take (i := 18) (oi := _) (v := undef) (by simp only [List.getElem?_toArray, List.getElem?_cons_succ, List.getElem?_cons_zero]; rfl) (by kernel_rfl) (by kernel_rfl) (by kernel_rfl) (by exact fun _ _ _ h => h) (Or.inr ⟨by rfl, rfl⟩) (by assumption) ?_
              try simp only [Act.put, List.setIfInBounds_toArray, List.set_cons_zero, List.set_cons_succ]
              refine wpAnyH_done (by kernel_rfl) ?_ _
              have HKF := Lib.hid (HK3.out.ext (gr_drew w3 none))
              go_wp2
              go_roundw
              case rel => exact ⟨k + 1, L, by omega, by go_num, by omega, HKF.out.more (by omega) (by omega)⟩
              case measure => simp [intOf] <;> omega
            · have hneg2 : 0 ≤ i := by omega
              have hge : ¬ i < (L.length : Int) := by omega
              have hdec : decide (i < (L.length : Int)) = false := decide_eq_false hge
              clear hin
              go_wp2_with fail
              rw [← HW3.out]
              clear hc12 hc13
              obtain ⟨e120, e121, e130, e132⟩ := HE.out
              refine wp_region_held_drew (S := fun w' => w'.cell? ⟨wr.heap.size, 0, none⟩ = some (.int .i64 1) ∧ w'.cell? ⟨wr.heap.size, 1, none⟩ = some (.int .i64 i) ∧ w'.cell? ⟨w2.heap.size, 0, none⟩ = some (.slice A2 r.length c9) ∧ w'.cell? ⟨w2.heap.size, 2, none⟩ = some (.int .i64 er)) (by kernel_rfl) ?_ (fun hHeld => ?_)
              · ((try dsimp only); exact HE.out)
              first
                | (refine wpAnyH_take (i := 0) (oi := _) (v := ?vop101) (by simp only [List.getElem?_toArray, List.getElem?_cons_zero]; rfl) (by kernel_rfl) (by kernel_rfl) (by kernel_rfl) (by exact fun _ _ _ h => h) (Or.inl ⟨by rfl, ?hyop101⟩) (by assumption) ?restop101
                   case hyop101 => (intro w hSw; (try dsimp only at hSw); go_simp; try (with_reducible rfl)))
                | refine wpAnyH_take (i := 0) (oi := _) (v := undef) (by simp only [List.getElem?_toArray, List.getElem?_cons_zero]; rfl) (by kernel_rfl) (by kernel_rfl) (by kernel_rfl) (by exact fun _ _ _ h => h) (Or.inr ⟨by rfl, rfl⟩) (by assumption) ?_
              try simp only [Act.put, List.setIfInBounds_toArray, List.set_cons_zero, List.set_cons_succ]
              first
                | (refine wpAnyH_take (i := 1) (oi := _) (v := ?vop102) (by simp only [List.getElem?_toArray, List.getElem?_cons_succ, List.getElem?_cons_zero]; rfl) (by kernel_rfl) (by kernel_rfl) (by kernel_rfl) (by exact fun _ _ _ h => h) (Or.inl ⟨by rfl, ?hyop102⟩) (by assumption) ?restop102
                   case hyop102 => (intro w hSw; (try dsimp only at hSw); go_simp; try (with_reducible rfl)))
                | refine wpAnyH_take (i := 1) (oi := _) (v := undef) (by simp only [List.getElem?_toArray, List.getElem?_cons_succ, List.getElem?_cons_zero]; rfl) (by kernel_rfl) (by kernel_rfl) (by kernel_rfl) (by exact fun _ _ _ h => h) (Or.inr ⟨by rfl, rfl⟩) (by assumption) ?_
              try simp only [Act.put, List.setIfInBounds_toArray, List.set_cons_zero, List.set_cons_succ]
              first
                | (refine wpAnyH_take (i := 2) (oi := _) (v := ?vop103) (by simp only [List.getElem?_toArray, List.getElem?_cons_succ, List.getElem?_cons_zero]; rfl) (by kernel_rfl) (by kernel_rfl) (by kernel_rfl) (by exact fun _ _ _ h => h) (Or.inl ⟨by rfl, ?hyop103⟩) (by assumption) ?restop103
                   case hyop103 => (intro w hSw; (try dsimp only at hSw); go_simp; try (with_reducible rfl)))
                | refine wpAnyH_take (i := 2) (oi := _) (v := undef) (by simp only [List.getElem?_toArray, List.getElem?_cons_succ, List.getElem?_cons_zero]; rfl) (by kernel_rfl) (by kernel_rfl) (by kernel_rfl) (by exact fun _ _ _ h => h) (Or.inr ⟨by rfl, rfl⟩) (by assumption) ?_
              try simp only [Act.put, List.setIfInBounds_toArray, List.set_cons_zero, List.set_cons_succ]
              first
                | (refine wpAnyH_take (i := 3) (oi := _) (v := ?vop104) (by simp only [List.getElem?_toArray, List.getElem?_cons_succ, List.getElem?_cons_zero]; rfl) (by kernel_rfl) (by kernel_rfl) (by kernel_rfl) (by exact fun _ _ _ h => h) (Or.inl ⟨by rfl, ?hyop104⟩) (by assumption) ?restop104
                   case hyop104 => (intro w hSw; (try dsimp only at hSw); go_simp; try (with_reducible rfl)))
                | refine wpAnyH_take (i := 3) (oi := _) (v := undef) (by simp only [List.getElem?_toArray, List.getElem?_cons_succ, List.getElem?_cons_zero]; rfl) (by kernel_rfl) (by kernel_rfl) (by kernel_rfl) (by exact fun _ _ _ h => h) (Or.inr ⟨by rfl, rfl⟩) (by assumption) ?_
              try simp only [Act.put, List.setIfInBounds_toArray, List.set_cons_zero, List.set_cons_succ]
              first
                | (refine wpAnyH_take (i := 4) (oi := _) (v := ?vop105) (by simp only [List.getElem?_toArray, List.getElem?_cons_succ, List.getElem?_cons_zero]; rfl) (by kernel_rfl) (by kernel_rfl) (by kernel_rfl) (by exact fun _ _ _ h => h) (Or.inl ⟨by rfl, ?hyop105⟩) (by assumption) ?restop105
                   case hyop105 => (intro w hSw; (try dsimp only at hSw); go_simp; try (with_reducible rfl)))
                | refine wpAnyH_take (i := 4) (oi := _) (v := undef) (by simp only [List.getElem?_toArray, List.getElem?_cons_succ, List.getElem?_cons_zero]; rfl) (by kernel_rfl) (by kernel_rfl) (by kernel_rfl) (by exact fun _ _ _ h => h) (Or.inr ⟨by rfl, rfl⟩) (by assumption) ?_
              try simp only [Act.put, List.setIfInBounds_toArray, List.set_cons_zero, List.set_cons_succ]
              first
                | (refine wpAnyH_take (i := 5) (oi := _) (v := ?vop106) (by simp only [List.getElem?_toArray, List.getElem?_cons_succ, List.getElem?_cons_zero]; rfl) (by kernel_rfl) (by kernel_rfl) (by kernel_rfl) (by exact fun _ _ _ h => h) (Or.inl ⟨by rfl, ?hyop106⟩) (by assumption) ?restop106
                   case hyop106 => (intro w hSw; (try dsimp only at hSw); go_simp; try (with_reducible rfl)))
                | refine wpAnyH_take (i := 5) (oi := _) (v := undef) (by simp only [List.getElem?_toArray, List.getElem?_cons_succ, List.getElem?_cons_zero]; rfl) (by kernel_rfl) (by kernel_rfl) (by kernel_rfl) (by exact fun _ _ _ h => h) (Or.inr ⟨by rfl, rfl⟩) (by assumption) ?_
              try simp only [Act.put, List.setIfInBounds_toArray, List.set_cons_zero, List.set_cons_succ]
              first
                | (refine wpAnyH_take (i := 6) (oi := _) (v := ?vop107) (by simp only [List.getElem?_toArray, List.getElem?_cons_succ, List.getElem?_cons_zero]; rfl) (by kernel_rfl) (by kernel_rfl) (by kernel_rfl) (by exact fun _ _ _ h => h) (Or.inl ⟨by rfl, ?hyop107⟩) (by assumption) ?restop107
                   case hyop107 => (intro w hSw; (try dsimp only at hSw); go_simp; try (with_reducible rfl)))
                | refine wpAnyH_take (i := 6) (oi := _) (v := undef) (by simp only [List.getElem?_toArray, List.getElem?_cons_succ, List.getElem?_cons_zero]; rfl) (by kernel_rfl) (by kernel_rfl) (by kernel_rfl) (by exact fun _ _ _ h => h) (Or.inr ⟨by rfl, rfl⟩) (by assumption) ?_
              try simp only [Act.put, List.setIfInBounds_toArray, List.set_cons_zero, List.set_cons_succ]
              first
                | (refine wpAnyH_take (i := 7) (oi := _) (v := ?vop108) (by simp only [List.getElem?_toArray, List.getElem?_cons_succ, List.getElem?_cons_zero]; rfl) (by kernel_rfl) (by kernel_rfl) (by kernel_rfl) (by exact fun _ _ _ h => h) (Or.inl ⟨by rfl, ?hyop108⟩) (by assumption) ?restop108
                   case hyop108 => (intro w hSw; (try dsimp only at hSw); go_simp; try (with_reducible rfl)))
                | refine wpAnyH_take (i := 7) (oi := _) (v := undef) (by simp only [List.getElem?_toArray, List.getElem?_cons_succ, List.getElem?_cons_zero]; rfl) (by kernel_rfl) (by kernel_rfl) (by kernel_rfl) (by exact fun _ _ _ h => h) (Or.inr ⟨by rfl, rfl⟩) (by assumption) ?_
              try simp only [Act.put, List.setIfInBounds_toArray, List.set_cons_zero, List.set_cons_succ]
              refine wpAnyH_take (i := 8) (oi := _) (v := undef) (by simp only [List.getElem?_toArray, List.getElem?_cons_succ, List.getElem?_cons_zero]; rfl) (by kernel_rfl) (by kernel_rfl) (by kernel_rfl) (by exact fun _ _ _ h => h) (Or.inr ⟨by rfl, rfl⟩) (by assumption) ?_
              try simp only [Act.put, List.setIfInBounds_toArray, List.set_cons_zero, List.set_cons_succ]
              refine wpAnyH_take (i := 9) (oi := _) (v := undef) (by simp only [List.getElem?_toArray, List.getElem?_cons_succ, List.getElem?_cons_zero]; rfl) (by kernel_rfl) (by kernel_rfl) (by kernel_rfl) (by exact fun _ _ _ h => h) (Or.inr ⟨by rfl, rfl⟩) (by assumption) ?_
              try simp only [Act.put, List.setIfInBounds_toArray, List.set_cons_zero, List.set_cons_succ]
              refine wpAnyH_take (i := 10) (oi := _) (v := undef) (by simp only [List.getElem?_toArray, List.getElem?_cons_succ, List.getElem?_cons_zero]; rfl) (by kernel_rfl) (by kernel_rfl) (by kernel_rfl) (by exact fun _ _ _ h => h) (Or.inr ⟨by rfl, rfl⟩) (by assumption) ?_
              try simp only [Act.put, List.setIfInBounds_toArray, List.set_cons_zero, List.set_cons_succ]
              refine wpAnyH_take (i := 11) (oi := _) (v := undef) (by simp only [List.getElem?_toArray, List.getElem?_cons_succ, List.getElem?_cons_zero]; rfl) (by kernel_rfl) (by kernel_rfl) (by kernel_rfl) (by exact fun _ _ _ h => h) (Or.inr ⟨by rfl, rfl⟩) (by assumption) ?_
              try simp only [Act.put, List.setIfInBounds_toArray, List.set_cons_zero, List.set_cons_succ]
              refine wpAnyH_take (i := 12) (oi := _) (v := undef) (by simp only [List.getElem?_toArray, List.getElem?_cons_succ, List.getElem?_cons_zero]; rfl) (by kernel_rfl) (by kernel_rfl) (by kernel_rfl) (by exact fun _ _ _ h => h) (Or.inr ⟨by rfl, rfl⟩) (by assumption) ?_
              try simp only [Act.put, List.setIfInBounds_toArray, List.set_cons_zero, List.set_cons_succ]
              refine wpAnyH_take (i := 13) (oi := _) (v := undef) (by simp only [List.getElem?_toArray, List.getElem?_cons_succ, List.getElem?_cons_zero]; rfl) (by kernel_rfl) (by kernel_rfl) (by kernel_rfl) (by exact fun _ _ _ h => h) (Or.inr ⟨by rfl, rfl⟩) (by assumption) ?_
              try simp only [Act.put, List.setIfInBounds_toArray, List.set_cons_zero, List.set_cons_succ]
              refine wpAnyH_take (i := 14) (oi := _) (v := undef) (by simp only [List.getElem?_toArray, List.getElem?_cons_succ, List.getElem?_cons_zero]; rfl) (by kernel_rfl) (by kernel_rfl) (by kernel_rfl) (by exact fun _ _ _ h => h) (Or.inr ⟨by rfl, rfl⟩) (by assumption) ?_
              try simp only [Act.put, List.setIfInBounds_toArray, List.set_cons_zero, List.set_cons_succ]
              refine wpAnyH_take (i := 15) (oi := _) (v := undef) (by simp only [List.getElem?_toArray, List.getElem?_cons_succ, List.getElem?_cons_zero]; rfl) (by kernel_rfl) (by kernel_rfl) (by kernel_rfl) (by exact fun _ _ _ h => h) (Or.inr ⟨by rfl, rfl⟩) (by assumption) ?_
              try simp only [Act.put, List.setIfInBounds_toArray, List.set_cons_zero, List.set_cons_succ]
              refine wpAnyH_take (i := 16) (oi := _) (v := undef) (by simp only [List.getElem?_toArray, List.getElem?_cons_succ, List.getElem?_cons_zero]; rfl) (by kernel_rfl) (by kernel_rfl) (by kernel_rfl) (by exact fun _ _ _ h => h) (Or.inr ⟨by rfl, rfl⟩) (by assumption) ?_
              try simp only [Act.put, List.setIfInBounds_toArray, List.set_cons_zero, List.set_cons_succ]
              first
                | (refine wpAnyH_take (i := 17) (oi := _) (v := ?vop109) (by simp only [List.getElem?_toArray, List.getElem?_cons_succ, List.getElem?_cons_zero]; rfl) (by kernel_rfl) (by kernel_rfl) (by kernel_rfl) (by exact fun _ _ _ h => h) (Or.inl ⟨by rfl, ?hyop109⟩) (by assumption) ?restop109
                   case hyop109 => (intro w hSw; (try dsimp only at hSw); go_simp; try (with_reducible rfl)))
                | refine wpAnyH_take (i := 17) (oi := _) (v := undef) (by simp only [List.getElem?_toArray, List.getElem?_cons_succ, List.getElem?_cons_zero]; rfl) (by kernel_rfl) (by kernel_rfl) (by kernel_rfl) (by exact fun _ _ _ h => h) (Or.inr ⟨by rfl, rfl⟩) (by assumption) ?_
              try simp only [Act.put, List.setIfInBounds_toArray, List.set_cons_zero, List.set_cons_succ]
              first
                | (refine wpAnyH_take (i := 18) (oi := _) (v := ?vop110) (by simp only [List.getElem?_toArray, List.getElem?_cons_succ, List.getElem?_cons_zero]; rfl) (by kernel_rfl) (by kernel_rfl) (by kernel_rfl) (by exact fun _ _ _ h => h) (Or.inl ⟨by rfl, ?hyop110⟩) (by assumption) ?restop110
                   case hyop110 => (intro w hSw; (try dsimp only at hSw); go_simp; try (with_reducible rfl)))
                | refine wpAnyH_take (i := 18) (oi := _) (v := undef) (by simp only [List.getElem?_toArray, List.getElem?_cons_succ, List.getElem?_cons_zero]; rfl) (by kernel_rfl) (by kernel_rfl) (by kernel_rfl) (by exact fun _ _ _ h => h) (Or.inr ⟨by rfl, rfl⟩) (by assumption) ?_
              try simp only [Act.put, List.setIfInBounds_toArray, List.set_cons_zero, List.set_cons_succ]
              refine wpAnyH_done (by kernel_rfl) ?_ _
              have HKF := Lib.hid (HK3.out.ext (gr_drew w3 none))
              go_wp2
              go_roundw
              case rel => exact ⟨k + 1, L, by omega, by go_num, by omega, HKF.out.more (by omega) (by omega)⟩
              case measure => simp [intOf] <;> omega
        by_cases k2 : kd = 2
        · subst k2
          have hd := tdoes_add HST.out (by omega) (by rw [List.length_map]; omega) i (HB.out.ext HST.out.gr) (by have := HBL.out; omega)
          rw [HW1.out] at hd
          have HD := Lib.hid hd
          clear hd
          go_wp2_with fail
          refine HD.out.mono ?_
          rintro e w2 ⟨A2, c9, hans⟩
          rw [← HW1.out] at hans
          rcases hans with ⟨hbs, rfl, hst2⟩ | ⟨hbs, rfl, hst2⟩
          · obtain ⟨hbk2, hb2⟩ := HNX.out _ _ _ hst2
            have g3 := gr_alloc w2 (.cells #[.slice A2 b.length c9, .int .i64 0, .int .i64 0] 61) none
            have hc12 := ((hb2 _ _ _ (Nat.le_refl _) HB12.out).ext g3).cell
            have hc13 := (Blk.new w2 61 #[.slice A2 b.length c9, .int .i64 0, .int .i64 0]).cell
            have HK2 := Lib.hid (hbk2.ext g3)
            have HOWN := Lib.hid (hbk2.ext g3).own
            have HZ3 := Lib.hid (hbk2.ext g3).gr.size
            have hq : ((b.length : Int) == (s : Int)) = true := by rw [beq_iff_eq]; omega
            clear hst2 hbk2 hb2 g3 HD HI HBL HST HNX HW1 HB12 HBK hbs
            go_wp2_with (at_builtin; refine wp_app1V (w := w2.alloc (.cells #[.slice A2 b.length c9, .int .i64 0, .int .i64 0] 61)) (.slice Ab b.length cb) b rfl rfl (.tmp 130) (.tmp 133) rfl rfl HOWN.out _ rfl (by rw [World.size_alloc]) (by omega) HZ3.out ?_; intro v8 w8 o8 e8)
            have HA8 : Hid (BK w d p sb s v8 (L ++ [(Value.slice Ab b.length cb, b)]) ((L ++ [(Value.slice Ab b.length cb, b)]).map Prod.snd) (1 + 2 * (k + 1)) w8) := by
              show BK _ _ _ _ _ _ _ _ _ _
              have h9 := (HK2.out.ext (gr_alloc _ (.cells #[.slice Ab b.length cb] 27) none)).app o8 e8 fun x hx => by
                rcases List.mem_append.1 hx with hx | hx
                · exact HK2.out.rd x hx
                · rw [List.mem_singleton.1 hx]; exact HB.out
              rw [List.map_append]
              exact h9.more (by omega) (by omega)
            clear o8 e8
            go_roundw
            case rel => exact ⟨k + 1, _, by omega, by go_num, by simp; omega, HA8.out⟩
            case measure => simp [intOf] <;> omega
          · obtain ⟨hbk2, hb2⟩ := HNX.out _ _ _ hst2
            have g3 := gr_alloc w2 (.cells #[.slice A2 b.length c9, .int .i64 0, .int .i64 1] 61) none
            have hc12 := ((hb2 _ _ _ (Nat.le_refl _) HB12.out).ext g3).cell
            have hc13 := (Blk.new w2 61 #[.slice A2 b.length c9, .int .i64 0, .int .i64 1]).cell
            have HK2 := Lib.hid (hbk2.ext g3)
            have hq : ((b.length : Int) == (s : Int)) = false := by rw [beq_eq_false_iff_ne]; omega
            clear hst2 hbk2 hb2 g3 HD HI HBL HST HNX HW1 HB12 HBK hbs
            go_wp2_with fail
            go_roundw
            case rel => exact ⟨k + 1, L, by omega, by go_num, by omega, HK2.out.more (by omega) (by omega)⟩
            case measure => simp [intOf] <;> omega
        by_cases k3 : kd = 3
        · subst k3
          have hd := tdoes_set HST.out (by omega) (by rw [List.length_map]; omega) HI.out (HB.out.ext HST.out.gr) (by have := HBL.out; omega)
          rw [HW1.out, List.length_map] at hd
          have HD := Lib.hid hd
          clear hd
          go_wp2_with fail
          refine HD.out.mono ?_
          rintro e w2 ⟨A2, c9, er, rfl, hans⟩
          rw [← HW1.out] at hans
          have hst2 : ∃ l', (((b.length = s ∧ 0 ≤ i ∧ i < L.length) ∧ er = 0 ∧ l' = (L.map Prod.snd).set i.toNat b) ∨ (¬ (b.length = s ∧ 0 ≤ i ∧ i < L.length) ∧ er ≠ 0 ∧ l' = L.map Prod.snd)) ∧ STn w d p sb s O l' (1 + 2 * k + 2) w1 w2 := by
            rcases hans with ⟨q1, q2, q3⟩ | ⟨q1, q2, _, q3⟩
            · exact ⟨_, .inl ⟨q1, q2, rfl⟩, q3⟩
            · exact ⟨_, .inr ⟨q1, q2, rfl⟩, q3⟩
          obtain ⟨l', hl', hst2⟩ := hst2
          obtain ⟨hbk2, hb2⟩ := HNX.out _ _ _ hst2
          have g3 := gr_alloc w2 (.cells #[.slice A2 b.length c9, .int .i64 0, .int .i64 er] 61) none
          have hc12 := ((hb2 _ _ _ (Nat.le_refl _) HB12.out).ext g3).cell
          have hc13 := (Blk.new w2 61 #[.slice A2 b.length c9, .int .i64 0, .int .i64 er]).cell
          have HK2 := Lib.hid (hbk2.ext g3)
          have HLL := Lib.hid hl'
          clear hans hst2 hbk2 hb2 g3 HD HI HBL HST HNX HW1 HB12 HBK hl'
          by_cases hin : b.length = s ∧ 0 ≤ i ∧ i < L.length
          · obtain ⟨j, rfl⟩ : ∃ j : Nat, i = (j : Int) := ⟨i.toNat, by omega⟩
            have hj : j < L.length := by omega
            obtain ⟨rfl, rfl⟩ : er = 0 ∧ l' = (L.map Prod.snd).set j b := by
              rcases HLL.out with ⟨_, q2, q3⟩ | ⟨q1, _⟩
              · exact ⟨q2, q3⟩
              · exact absurd hin q1
            have hq : ((b.length : Int) == (s : Int)) = true := by rw [beq_iff_eq]; omega
            have hcl : (j : Int) < (L.length : Int) := by omega
            have hc0 : (0 : Int) ≤ (j : Int) := by omega
            obtain ⟨g7, off7, hA7, hc7, hf7, hcell7, hput7⟩ := HK2.out.put hj
            have hsome7 : ∃ x, (w2.alloc (.cells #[.slice A2 b.length c9, .int .i64 0, .int .i64 0] 61)).cell? ⟨g7, off7 + j, none⟩ = some x := ⟨_, hcell7⟩
            obtain ⟨x7, hcell8⟩ := hsome7
            have hf8 : (w2.alloc (.cells #[.slice A2 b.length c9, .int .i64 0, .int .i64 0] 61)).frozen? ⟨g7, off7 + j, none⟩ = false := hf7
            have HPUT := Lib.hid (hput7 (.slice Ab b.length cb) b HB.out)
            have hc12' : ∀ q, (w2.alloc (.cells #[.slice A2 b.length c9, .int .i64 0, .int .i64 0] 61)).cell? ⟨wr.heap.size, q, none⟩ = #[.int .i64 3, .int .i64 j, .slice Ab b.length cb][q]? := hc12
            have hc13' : ∀ q, (w2.alloc (.cells #[.slice A2 b.length c9, .int .i64 0, .int .i64 0] 61)).cell? ⟨w2.heap.size, q, none⟩ = #[.slice A2 b.length c9, .int .i64 0, .int .i64 0][q]? := hc13
            clear hcell7 hf7 hput7 HLL hin hc12 hc13
            subst hA7
            go_wp2_with fail
            go_roundw
            case rel =>
              refine ⟨k + 1, L.set j (.slice Ab b.length cb, b), by omega, by go_num, by rw [List.length_set]; omega, ?_⟩
              have h9 := HPUT.out.more (n := 1 + 2 * (k + 1)) (by omega) (by omega)
              rw [List.length_set] at h9
              rw [List.map_set]
              exact h9
            case measure => simp [intOf] <;> omega
          · obtain ⟨her, rfl⟩ : er ≠ 0 ∧ l' = L.map Prod.snd := by
              rcases HLL.out with ⟨q1, _⟩ | ⟨_, q2, q3⟩
              · exact absurd q1 hin
              · exact ⟨q2, q3⟩
            have her2 : ((er : Int) == 0) = false := by rw [beq_eq_false_iff_ne]; omega
            have HKF := Lib.hid (HK2.out.more (n := 1 + 2 * (k + 1)) (by omega) (by omega))
            have HIN := Lib.hid hin
            clear HK2 HLL her hin
            by_cases hneg : i < 0
            · have hneg2 : ¬ 0 ≤ i := by omega
              go_wp2_with fail
              go_roundw
              case rel => exact ⟨k + 1, L, by omega, by go_num, by omega, HKF.out⟩
              case measure => simp [intOf] <;> omega
            · have hneg2 : 0 ≤ i := by omega
              by_cases hge : i < (L.length : Int)
              · have hq : ((b.length : Int) == (s : Int)) = false := by
                  rw [beq_eq_false_iff_ne]
                  have := HIN.out
                  omega
                go_wp2_with fail
                go_roundw
                case rel => exact ⟨k + 1, L, by omega, by go_num, by omega, HKF.out⟩
                case measure => simp [intOf] <;> omega
              · go_wp2_with fail
                go_roundw
                case rel => exact ⟨k + 1, L, by omega, by go_num, by omega, HKF.out⟩
                case measure => simp [intOf] <;> omega
        have hd : Calls Try.prog 30 #[.pointer (some ⟨d, 0, none⟩), .pointer (some ⟨p, 0, none⟩), .pointer (some ⟨sb, 0, none⟩), .agg #[.int .i64 kd, .int .i64 i, .slice Ab b.length cb]] w1 fun e w' =>
            e = .returned (.agg #[.slice none 0 0, .int .i64 0, .int .i64 0]) ∧ STn w d p sb s O (L.map Prod.snd) (1 + 2 * k + 1) w1 w' := by
          by_cases k5 : kd = 5
          · subst k5
            exact tdoes_flush HST.out (by omega) i _
          · exact tdoes_other HST.out (by omega) ⟨k0, k1, k2, k3, k4, k5, k6⟩ i _
        rw [HW1.out] at hd
        have HD := Lib.hid hd
        have b4 : (kd == 4) = false := by rw [beq_eq_false_iff_ne]; exact k4
        have b6 : (kd == 6) = false := by rw [beq_eq_false_iff_ne]; exact k6
        clear hd
        go_wp2_with fail
        refine HD.out.mono ?_
        rintro e w2 ⟨rfl, hst2⟩
        rw [← HW1.out] at hst2
        obtain ⟨hbk2, hb2⟩ := HNX.out _ _ _ hst2
        have hc12 := ((hb2 _ _ _ (Nat.le_refl _) HB12.out).ext (gr_alloc w2 (.cells #[.slice none 0 0, .int .i64 0, .int .i64 0] 61) none)).cell
        have HK2 := Lib.hid hbk2
        clear hst2 hbk2 hb2 HD HB HI HBL HST HNX HW1 HB12 HBK
        go_wp2_with fail
        go_roundw
        case rel => exact ⟨k + 1, L, by omega, by go_num, by omega, (HK2.out.ext (gr_alloc _ _ none)).more (by omega) (by omega)⟩
        case measure => simp [intOf] <;> omega
      · obtain rfl : k = l.length := by omega
        have hm1 : 1 + 2 * l.length ≤ 9000 := by omega
        obtain ⟨O, st, hnext⟩ := hbk.out (gr_refl _ _)
        have hln := st.len hm1 (by rw [List.length_map]; omega)
        rw [List.length_map] at hln
        have HLN := Lib.hid hln
        have HNX := Lib.hid hnext
        clear hln hnext st hbk HRT
        go_wp2_with fail
        refine HLN.out.mono ?_
        rintro e w2 ⟨rfl, hst2⟩
        obtain ⟨hbk2, -⟩ := HNX.out _ _ _ hst2
        have HK2 := Lib.hid hbk2
        clear hst2 hbk2 HNX HLN
        go_wp2_with fail
        obtain ⟨nl, hnl⟩ : ∃ nl, nl = l.length := ⟨_, rfl⟩
        have hnl2 : nl ≤ 120 := by omega
        have hL2 : L.length ≤ nl := by omega
        have HK3 : Hid (BK w d p sb s (.slice Al L.length cl) L (L.map Prod.snd) (1 + 2 * nl + 1) w2) := by rw [hnl]; exact HK2.out
        clear HK2 hnn
        go_loopw [18, 19, 20] (fun iv _ _ wy => ∃ j : Nat, j ≤ L.length ∧ iv = .int .i64 j ∧ BK w d p sb s (.slice Al L.length cl) L (L.map Prod.snd) (1 + 2 * nl + 1 + j) wy) (fun iv _ _ _ => L.length - (intOf iv).toNat)
        case atStart => exact ⟨0, Nat.zero_le _, rfl, HK3.out⟩
        case round =>
          obtain ⟨j, hj0, rfl, hbk⟩ := hrel
          rename World => wy
          obtain ⟨O, st, hnext⟩ := hbk.out (gr_refl _ _)
          by_cases hj : j < L.length
          · have HG := Lib.hid (st.get (i := (j : Int)) (by omega) (by rw [List.length_map]; omega) (by omega))
            have HNX := Lib.hid hnext
            clear hnext st hbk
            go_wp2_with fail
            refine HG.out.mono ?_
            rintro e w3 ⟨O3, s3, c3, hc⟩
            obtain ⟨v3, rfl, hr3⟩ : ∃ v3, e = .returned (.tuple #[v3, .int .i64 0]) ∧ RdB w3 v3 L[j].2 := by
              rcases hc with ⟨r, v, _, q2, q3, q4, _⟩ | ⟨q1, _⟩
              · rw [Int.toNat_natCast, List.getElem?_map, List.getElem?_eq_getElem hj] at q2
                obtain rfl : L[j].2 = r := Option.some.inj q2
                exact ⟨v, q3, Own.rd q4⟩
              · rw [List.length_map] at q1
                exact absurd ⟨by omega, by omega⟩ q1
            obtain ⟨hbk3, -⟩ := HNX.out _ _ _ ⟨O3, s3, c3⟩
            obtain ⟨g7, off7, hA7, hc7, hcell7, hrd7⟩ := hbk3.at_ hj
            obtain ⟨x7, hx7⟩ : ∃ x, x = L[j].1 := ⟨_, rfl⟩
            obtain ⟨r, hr⟩ : ∃ r, r = L[j].2 := ⟨_, rfl⟩
            rw [← hx7, ← hr] at hrd7
            rw [← hx7] at hcell7
            rw [← hr] at hr3
            obtain ⟨A7, c71, rfl⟩ := RdB.form hrd7
            obtain ⟨A3, c31, rfl⟩ := RdB.form hr3
            subst hA7
            have HEQ : Hid (Calls Try.prog 12 #[.slice A3 r.length c31, .slice A7 r.length c71] w3 fun e w' => e = .returned (.bool true) ∧ w3 = w') := by
              have := eqBytes_any _ _ r r w3 hr3 hrd7
              rw [beq_self_eq_true] at this
              exact this
            have HK4 := Lib.hid hbk3
            have hcl : (j : Int) < (L.length : Int) := by omega
            have hc0 : (0 : Int) ≤ (j : Int) := by omega
            clear hbk3 hrd7 hr3 hx7 hr s3 c3 hc HG HNX
            go_wp2_with fail
            refine HEQ.out.mono ?_
            rintro e w4 ⟨rfl, rfl⟩
            clear HEQ hcell7
            go_wp2_with fail
            go_roundw
            case rel => exact ⟨j + 1, by omega, by go_num, HK4.out⟩
            case measure => simp [intOf] <;> omega
          · obtain rfl : j = L.length := by omega
            obtain ⟨N, hN⟩ : ∃ N, (chk (240 / s * s) (L.map Prod.snd).flatten).length = N := ⟨_, rfl⟩
            have hsb : 1 ≤ s ∧ s ≤ 240 := by have := HSZ.out; omega
            have hcp := chk_pages hsb.1 hsb.2 st.rows
            rw [hN, List.length_map] at hcp
            have HPG : Hid (Calls Try.prog 10 #[.pointer (some ⟨p, 0, none⟩), .string ⟨sn.toArray⟩] wy fun e w' => e = .returned (.tuple #[.int .i64 N, .int .i64 0]) ∧ wy.grownBy w' none) := by rw [← hN]; exact st.pages wy (gr_refl _ _)
            have HGR := Lib.hid st.gr
            obtain ⟨per, hper, p1, p2, p3, hpi, hw1, hq2, hNb, hperb, hdv, hd0⟩ := shapeN hsb (Nat.le_trans hL2 (Nat.le_trans hnl2 (by decide))) hcp
            have hz2 : ¬ s = 0 := Nat.ne_of_gt hsb.1
            have HDV := Lib.hid hdv
            have HD0 := Lib.hid hd0
            clear hper p1 p2 p3 hpi hw1 hq2 hdv hd0 hN hcp hnext st hbk hperb hsb hj0 hj
            go_wp2_with fail
            refine HPG.out.mono ?_
            rintro e w5 ⟨rfl, g5⟩
            have G5 := Lib.hid g5
            have HWK5 := Lib.hid (works11_any w5)
            have hdv := HDV.out
            have hd0 := HD0.out
            clear g5 HPG
            go_wp2_with fail
            refine HWK5.out.mono ?_
            rintro e w6 ⟨rfl, g6⟩
            have G6 := Lib.hid g6
            clear g6 hdv hd0
            go_wp2_with fail
            go_ret
            exact ⟨rfl, gr_none (gr_none HGR.out G5.out) G6.out⟩
end Go.Proofs.Ytkfokgjpeaibpaa
