/-
  PoolHolds: the walk (printed by wip/tools/gen_qj.py).
-/
import Derived.Test.YtkfokgjpeaibpaaGreatQi
import Derived.Test.YtkfokgjpeaibpaaGreatQv
namespace Go.Proofs.YtkfokgjpeaibpaaGreat
open Go.RowKit Go.Maps
set_option maxRecDepth 100000
set_option maxHeartbeats 400000

theorem ponew_bad {d : Nat} (fr : Int) (w : World) (h : fr < 1) : Calls Tryz.prog 11 #[.pointer (some ⟨d, 0, none⟩), .int .i64 fr] w fun e w' => e = .returned (.tuple #[.pointer none, .int .i64 1]) ∧ w = w' := by
  go_enter Tryz.func11, Tryz.ntmps11
  go_wp2
  go_ret2
  exact ⟨rfl, rfl⟩
theorem PA.held2 {w0 w : World} {d p : Nat} {O : Own1} {Q : Pm} {S : Dk} {x y z : Nat} (h : PA w0 d p O Q S w) (hx : heldN Fr.full Q.fr = x) (hy : heldN pinned Q.fr = y) (hz : heldN Fr.dirty Q.fr = z) : Calls Tryz.prog 22 #[.pointer (some ⟨p, 0, none⟩)] w fun e w' => e = .returned (.tuple #[.int .i64 x, .int .i64 y, .int .i64 z]) ∧ w.grownBy w' none := by
  subst hx hy hz
  exact h.held
set_option maxHeartbeats 8000000 in
theorem pholds_any (qu fr : Int) (hqu : -9223372036854775808 ≤ qu ∧ qu ≤ 9223372036854775807) (v : Value) (l : List OpQ) (w : World) (h : RdQ w v l) : Calls Tryz.prog 5 #[.int .i64 qu, .int .i64 fr, v] w fun e w' => e = .returned (.bool true) ∧ w.grownBy w' none := by
  have HV := Lib.hid (vastQ_any fr v l w h)
  have HWK := Lib.hid (fun wx => works10_any wx)
  obtain ⟨A, c, rfl⟩ := h.form
  cases hv : vastQ fr l with
  | true =>
    clear h
    go_enter Tryz.func5, Tryz.ntmps5
    go_wp2_with fail
    refine HV.out.mono ?_
    rintro e w1 ⟨rfl, g1⟩
    have G1 := Lib.hid g1
    rw [hv]
    clear g1 HV
    go_wp2_with fail
    refine (HWK.out w1).mono ?_
    rintro e w9 ⟨rfl, g9⟩
    have G9 := Lib.hid g9
    clear g9 HWK
    go_wp2_with fail
    go_ret
    exact ⟨rfl, gr_none G1.out G9.out⟩
  | false =>
    obtain ⟨hn, hf2, hsum⟩ := vastQ_no hv
    by_cases hqb : qu < 0 ∨ 1048576 < qu
    · clear h
      have HNB := Lib.hid (fun wx => new_bad qu wx hqb)
      clear hqb
      go_enter Tryz.func5, Tryz.ntmps5
      go_wp2_with fail
      refine HV.out.mono ?_
      rintro e w1 ⟨rfl, g1⟩
      have G1 := Lib.hid g1
      rw [hv]
      clear g1 HV
      go_wp2_with fail
      refine (HNB.out w1).mono ?_
      rintro e w2 ⟨rfl, rfl⟩
      clear HNB
      go_wp2_with fail
      refine (HWK.out _).mono ?_
      rintro e w9 ⟨rfl, g9⟩
      have G9 := Lib.hid g9
      clear g9 HWK
      go_wp2_with fail
      go_ret
      exact ⟨rfl, gr_none G1.out G9.out⟩
    · obtain ⟨q, rfl⟩ : ∃ q : Nat, qu = (q : Int) := ⟨qu.toNat, by omega⟩
      have HNEW := Lib.hid (fun wx => DA.new q wx (by omega))
      clear hqb hqu
      by_cases hfb : fr < 1
      · clear h
        go_enter Tryz.func5, Tryz.ntmps5
        go_wp2_with fail
        refine HV.out.mono ?_
        rintro e w1 ⟨rfl, g1⟩
        have G1 := Lib.hid g1
        rw [hv]
        clear g1 HV
        go_wp2_with fail
        refine (HNEW.out w1).mono ?_
        rintro e w2 ⟨d, o, rfl, h2⟩
        have G2 := Lib.hid h2.gr
        clear h2 HNEW
        have HPB := Lib.hid (fun wx => ponew_bad (d := d) fr wx hfb)
        go_wp2_with fail
        refine (HPB.out w2).mono ?_
        rintro e w3 ⟨rfl, rfl⟩
        clear HPB
        go_wp2_with fail
        refine (HWK.out _).mono ?_
        rintro e w9 ⟨rfl, g9⟩
        have G9 := Lib.hid g9
        clear g9 HWK
        go_wp2_with fail
        go_ret
        exact ⟨rfl, gr_none (gr_none G1.out G2.out) G9.out⟩
      · obtain ⟨L, rfl⟩ : ∃ L : Nat, fr = (L : Int) := ⟨fr.toNat, by omega⟩
        have hLb : 1 ≤ L ∧ L ≤ 64 := by omega
        have HN := Lib.hid hn
        have HRT := Lib.hid h
        have HSUM := Lib.hid hsum
        have HLB := Lib.hid hLb
        clear h hn hf2 hsum hfb
        go_enter Tryz.func5, Tryz.ntmps5
        go_wp2_with fail
        refine HV.out.mono ?_
        rintro e w1 ⟨rfl, g1⟩
        have G1 := Lib.hid g1
        rw [hv]
        clear g1 HV
        go_wp2_with fail
        refine (HNEW.out w1).mono ?_
        rintro e w2 ⟨d, o, rfl, h2⟩
        have HPO := Lib.hid (h2.ponew L HLB.out.1 (by have := HLB.out; omega))
        clear h2 HNEW
        go_wp2_with fail
        refine HPO.out.mono ?_
        rintro e w3 ⟨p, O3, rfl, h3, -⟩
        have hhs : HS w1 d p L 0 0 O3 w3 := ⟨_, _, h3, HoldI.new L HLB.out.1, ⟨Sm.new q, by show (List.replicate L fr0).length ≤ 64; rw [List.length_replicate]; exact HLB.out.2, fun i f hf => by rw [pm0_at L i f hf]; simp [fr0]⟩⟩
        have H3 := Lib.hid hhs
        clear h3 hhs HPO
        go_wp2_with fail
        have hnn := HN.out
        clear hv hLb
        go_loopw [10, 11, 12, 13, 14, 15, 16, 17] (fun pv iv _ _ _ _ _ _ wr => ∃ (k n : Nat) (O : Own1), k ≤ l.length ∧ iv = .int .i64 k ∧ pv = .int .i64 n ∧ n ≤ k ∧ HS w1 d p L n k O wr) (fun _ iv _ _ _ _ _ _ _ => l.length - (intOf iv).toNat)
        case atStart => exact ⟨0, 0, O3, Nat.zero_le _, rfl, rfl, Nat.le_refl _, H3.out⟩
        case round =>
          obtain ⟨k, n, O, hk, rfl, rfl, hnk, hs⟩ := hrel
          obtain ⟨Q0, S0, hpa0, -, -⟩ := id hs
          have hgr := gr_none G1.out hpa0.gr
          clear hpa0
          by_cases hlt : k < l.length
          · obtain ⟨g, off, hA, hcap, hmx, hcells⟩ := (HRT.out.ext hgr).at_
            obtain rfl := hA (by omega)
            have hok := HRT.out.2 l[k] (List.getElem_mem hlt)
            have hbl := opQW_small (Nat.le_trans (opQW_le l[k] (List.getElem_mem hlt)) HSUM.out)
            have hc := hcells k hlt
            obtain ⟨⟨kd, nm, i, bv, b⟩, hx⟩ : ∃ o, o = l[k] := ⟨_, rfl⟩
            rw [← hx] at hc hok hbl
            obtain ⟨Ab, cb, rfl⟩ : ∃ Ab cb, bv = .slice Ab b.length cb := hok.b.form
            have c0 : wr.cell? ⟨g, off + k * 4, none⟩ = some (.int .i64 kd) := hc 0 (by omega)
            have c1 : wr.cell? ⟨g, off + k * 4 + 1, none⟩ = some (.string ⟨nm.toArray⟩) := hc 1 (by omega)
            have c2 : wr.cell? ⟨g, off + k * 4 + 2, none⟩ = some (.int .i64 i) := hc 2 (by omega)
            have c3 : wr.cell? ⟨g, off + k * 4 + 3, none⟩ = some (.slice Ab b.length cb) := hc 3 (by omega)
            have hbl2 : b.length ≤ 65536 ∧ nm.length ≤ 65536 := hbl
            have HD := Lib.hid (hs_does hs (by omega) (by omega) kd (nm := nm) (by omega) hok.k (hok.b.ext hgr) (by omega))
            have HKC : Hid (∀ wx, wr.grownBy wx none → True) := fun _ _ => trivial
            have hkb : (0 : Int) ≤ (k : Int) := by omega
            have hkl : (k : Int) < (l.length : Int) := by omega
            have hcold : ∀ {w' : World}, w1.grownBy w' none → w'.cell? ⟨g, off + k * 4, none⟩ = some (.int .i64 kd) := fun {w'} g9 => by
              have h9 := (HRT.out.ext (gr_none G1.out g9)).at_
              obtain ⟨g', off', hA', -, -, hc'⟩ := h9
              have := hA' (by omega)
              cases this
              have := hc' k hlt 0 (by omega)
              rw [← hx] at this
              exact this
            have HCO : Hid (∀ w' : World, w1.grownBy w' none → w'.cell? ⟨g, off + k * 4, none⟩ = some (.int .i64 kd)) := fun w' g9 => hcold g9
            clear hc hok hbl hx hcells hs hgr hbl2 hcold HKC
            go_wp2_with fail
            refine HD.out.mono ?_
            rintro e w4 ⟨A4, l4, c4, er, cnt, rfl, h4n, O4, hs4, -⟩
            have g5 := gr_alloc w4 (.cells #[.slice A4 l4 c4, .int .i64 cnt, .int .i64 er] 38) none
            have hc12 := (Blk.new w4 38 #[.slice A4 l4 c4, .int .i64 cnt, .int .i64 er]).cell
            obtain ⟨Q, S, hpa, hho, hsz⟩ := id hs4
            have hco := HCO.out _ (gr_none hpa.gr g5)
            obtain ⟨t1, t2, t3, t4, t5⟩ := hho.told
            obtain ⟨x, hx⟩ : ∃ x, heldN Fr.full Q.fr = x := ⟨_, rfl⟩
            obtain ⟨y, hy⟩ : ∃ y, heldN pinned Q.fr = y := ⟨_, rfl⟩
            obtain ⟨z, hz⟩ : ∃ z, heldN Fr.dirty Q.fr = z := ⟨_, rfl⟩
            have hmf := hho.mf
            have hmp := hho.mp
            rw [hx] at t1 t2 t3 hmf
            rw [hy] at t2 t4 t5 hmp
            rw [hz] at t3
            have HHE := Lib.hid (fun wx (hg : w4.grownBy wx none) => (hpa.ext hg).held2 hx hy hz)
            have HPK := Lib.hid (fun wx (hg : w4.grownBy wx none) => (hpa.ext hg).peak)
            obtain ⟨u, hu⟩ : ∃ u, Q.mf = u := ⟨_, rfl⟩
            obtain ⟨vv, hvv⟩ : ∃ vv, Q.mp = vv := ⟨_, rfl⟩
            rw [hu, hvv] at HPK
            rw [hu] at hmf
            rw [hu, hvv] at hmp
            have HS4 := Lib.hid ((sta_hs w1 d p L (pinsBy kd er n) (k + 1)).ext hs4 g5)
            have HT4 := Lib.hid (And.intro t4 t5)
            have q1 : ¬ (L : Int) < (x : Int) := by omega
            have q2 : ¬ (x : Int) < (y : Int) := by omega
            have q3 : ¬ (x : Int) < (z : Int) := by omega
            have q4 : ¬ (u : Int) < (x : Int) := by omega
            have q5 : ¬ (vv : Int) < (y : Int) := by omega
            have q6 : ¬ (L : Int) < (u : Int) := by omega
            have q7 : ¬ (u : Int) < (vv : Int) := by omega
            clear hs4 hpa hho hsz hx hy hz hu hvv t1 t2 t3 t4 t5 hmf hmp HD HCO c0 c1 c2 c3
            by_cases k3 : kd = 3
            · subst k3
              by_cases he : er = 0
              · subst he
                have hp : pinsBy 3 0 n = n + 1 := by unfold pinsBy; rw [if_pos ⟨rfl, rfl⟩]
                rw [hp] at HS4 HT4
                have g5 : w4.grownBy (w4.alloc (.cells #[.slice A4 l4 c4, .int .i64 cnt, .int .i64 0] 38)) none := g5
                have hc12 : ∀ i, (w4.alloc (.cells #[.slice A4 l4 c4, .int .i64 cnt, .int .i64 0] 38)).cell? ⟨w4.heap.size, i, none⟩ = #[.slice A4 l4 c4, .int .i64 cnt, .int .i64 0][i]? := hc12
                have hco : (w4.alloc (.cells #[.slice A4 l4 c4, .int .i64 cnt, .int .i64 0] 38)).cell? ⟨g, off + k * 4, none⟩ = some (.int .i64 3) := hco
                have HS4 : Hid (HS w1 d p L (n + 1) (k + 1) O4 (w4.alloc (.cells #[.slice A4 l4 c4, .int .i64 cnt, .int .i64 0] 38))) := HS4
                have ht := HT4.out
                have p1 : ¬ ((n : Int) + 1) < (y : Int) := by omega
                have p2 : ¬ ((n : Int) + 1) < 0 := by omega
                have hgy := g5
                clear hp
                by_cases hn0 : n + 1 = 0
                · exact absurd hn0 (by omega)
                · have p3 : (((n : Int) + 1) == 0) = false := by rw [beq_eq_false_iff_ne]; omega
                  have p4 : ((y : Int) == 0) = false := by rw [beq_eq_false_iff_ne]; omega
                  clear ht
                  have G5 := Lib.hid g5
                  clear hgy g5
                  go_wp2_with fail
                  refine (HHE.out _ G5.out).mono ?_
                  rintro e w6 ⟨rfl, g6⟩
                  have G6 := Lib.hid g6
                  clear g6 hc12 hco HHE
                  go_wp2_with fail
                  refine (HPK.out _ (gr_none G5.out G6.out)).mono ?_
                  rintro e w7 ⟨rfl, g7⟩
                  have G7 := Lib.hid g7
                  clear g7 HPK
                  go_wp2_with fail
                  go_roundw
                  case rel => exact ⟨k + 1, n + 1, O4, by omega, by go_num, by go_num, by omega, (sta_hs w1 d p L _ (k + 1)).ext ((sta_hs w1 d p L _ (k + 1)).ext HS4.out G6.out) G7.out⟩
                  case measure => simp [intOf] <;> omega
              · have hp : pinsBy 3 er n = n := by unfold pinsBy; rw [if_neg (fun e => he e.2), if_neg (fun e => absurd e.1 (by decide))]
                rw [hp] at HS4 HT4
                have he2 : ((er : Int) == 0) = false := by rw [beq_eq_false_iff_ne]; omega
                have ht := HT4.out
                have p1 : ¬ (n : Int) < (y : Int) := by omega
                have p2 : ¬ (n : Int) < 0 := by omega
                have hgy := g5
                clear hp
                by_cases hn0 : n = 0
                · have p3 : ((n : Int) == 0) = true := by rw [beq_iff_eq]; omega
                  have p4 : ((y : Int) == 0) = true := by rw [beq_iff_eq]; omega
                  clear ht
                  have G5 := Lib.hid g5
                  clear hgy g5
                  go_wp2_with fail
                  refine (HHE.out _ G5.out).mono ?_
                  rintro e w6 ⟨rfl, g6⟩
                  have G6 := Lib.hid g6
                  clear g6 hc12 hco HHE
                  go_wp2_with fail
                  refine (HPK.out _ (gr_none G5.out G6.out)).mono ?_
                  rintro e w7 ⟨rfl, g7⟩
                  have G7 := Lib.hid g7
                  clear g7 HPK
                  go_wp2_with fail
                  go_roundw
                  case rel => exact ⟨k + 1, n, O4, by omega, by go_num, by first | trivial | rfl | go_num, by omega, (sta_hs w1 d p L _ (k + 1)).ext ((sta_hs w1 d p L _ (k + 1)).ext HS4.out G6.out) G7.out⟩
                  case measure => simp [intOf] <;> omega
                · have p3 : ((n : Int) == 0) = false := by rw [beq_eq_false_iff_ne]; omega
                  have p4 : ((y : Int) == 0) = false := by rw [beq_eq_false_iff_ne]; omega
                  clear ht
                  have G5 := Lib.hid g5
                  clear hgy g5
                  go_wp2_with fail
                  refine (HHE.out _ G5.out).mono ?_
                  rintro e w6 ⟨rfl, g6⟩
                  have G6 := Lib.hid g6
                  clear g6 hc12 hco HHE
                  go_wp2_with fail
                  refine (HPK.out _ (gr_none G5.out G6.out)).mono ?_
                  rintro e w7 ⟨rfl, g7⟩
                  have G7 := Lib.hid g7
                  clear g7 HPK
                  go_wp2_with fail
                  go_roundw
                  case rel => exact ⟨k + 1, n, O4, by omega, by go_num, by first | trivial | rfl | go_num, by omega, (sta_hs w1 d p L _ (k + 1)).ext ((sta_hs w1 d p L _ (k + 1)).ext HS4.out G6.out) G7.out⟩
                  case measure => simp [intOf] <;> omega
            · by_cases k4 : kd = 4
              · subst k4
                by_cases he : er = 0
                · subst he
                  have hp : pinsBy 4 0 n = n - 1 := by unfold pinsBy; rw [if_neg (fun e => absurd e.1 (by decide)), if_pos ⟨rfl, rfl⟩]
                  have hn1 := h4n rfl rfl
                  rw [hp] at HS4 HT4
                  have g5 : w4.grownBy (w4.alloc (.cells #[.slice A4 l4 c4, .int .i64 cnt, .int .i64 0] 38)) none := g5
                  have hc12 : ∀ i, (w4.alloc (.cells #[.slice A4 l4 c4, .int .i64 cnt, .int .i64 0] 38)).cell? ⟨w4.heap.size, i, none⟩ = #[.slice A4 l4 c4, .int .i64 cnt, .int .i64 0][i]? := hc12
                  have hco : (w4.alloc (.cells #[.slice A4 l4 c4, .int .i64 cnt, .int .i64 0] 38)).cell? ⟨g, off + k * 4, none⟩ = some (.int .i64 4) := hco
                  have HS4 : Hid (HS w1 d p L (n - 1) (k + 1) O4 (w4.alloc (.cells #[.slice A4 l4 c4, .int .i64 cnt, .int .i64 0] 38))) := HS4
                  have ht := HT4.out
                  have p1 : ¬ ((n : Int) - 1) < (y : Int) := by omega
                  have p2 : ¬ ((n : Int) - 1) < 0 := by omega
                  have hgy := g5
                  clear hp
                  by_cases hn0 : n - 1 = 0
                  · have p3 : (((n : Int) - 1) == 0) = true := by rw [beq_iff_eq]; omega
                    have p4 : ((y : Int) == 0) = true := by rw [beq_iff_eq]; omega
                    clear ht
                    have G5 := Lib.hid g5
                    clear hgy g5
                    go_wp2_with fail
                    refine (HHE.out _ G5.out).mono ?_
                    rintro e w6 ⟨rfl, g6⟩
                    have G6 := Lib.hid g6
                    clear g6 hc12 hco HHE
                    go_wp2_with fail
                    refine (HPK.out _ (gr_none G5.out G6.out)).mono ?_
                    rintro e w7 ⟨rfl, g7⟩
                    have G7 := Lib.hid g7
                    clear g7 HPK
                    go_wp2_with fail
                    go_roundw
                    case rel => exact ⟨k + 1, n - 1, O4, by omega, by go_num, by congr 1; omega, by omega, (sta_hs w1 d p L _ (k + 1)).ext ((sta_hs w1 d p L _ (k + 1)).ext HS4.out G6.out) G7.out⟩
                    case measure => simp [intOf] <;> omega
                  · have p3 : (((n : Int) - 1) == 0) = false := by rw [beq_eq_false_iff_ne]; omega
                    have p4 : ((y : Int) == 0) = false := by rw [beq_eq_false_iff_ne]; omega
                    clear ht
                    have G5 := Lib.hid g5
                    clear hgy g5
                    go_wp2_with fail
                    refine (HHE.out _ G5.out).mono ?_
                    rintro e w6 ⟨rfl, g6⟩
                    have G6 := Lib.hid g6
                    clear g6 hc12 hco HHE
                    go_wp2_with fail
                    refine (HPK.out _ (gr_none G5.out G6.out)).mono ?_
                    rintro e w7 ⟨rfl, g7⟩
                    have G7 := Lib.hid g7
                    clear g7 HPK
                    go_wp2_with fail
                    go_roundw
                    case rel => exact ⟨k + 1, n - 1, O4, by omega, by go_num, by congr 1; omega, by omega, (sta_hs w1 d p L _ (k + 1)).ext ((sta_hs w1 d p L _ (k + 1)).ext HS4.out G6.out) G7.out⟩
                    case measure => simp [intOf] <;> omega
                · have hp : pinsBy 4 er n = n := by unfold pinsBy; rw [if_neg (fun e => absurd e.1 (by decide)), if_neg (fun e => he e.2)]
                  rw [hp] at HS4 HT4
                  have he2 : ((er : Int) == 0) = false := by rw [beq_eq_false_iff_ne]; omega
                  have ht := HT4.out
                  have p1 : ¬ (n : Int) < (y : Int) := by omega
                  have p2 : ¬ (n : Int) < 0 := by omega
                  have hgy := g5
                  clear hp
                  by_cases hn0 : n = 0
                  · have p3 : ((n : Int) == 0) = true := by rw [beq_iff_eq]; omega
                    have p4 : ((y : Int) == 0) = true := by rw [beq_iff_eq]; omega
                    clear ht
                    have G5 := Lib.hid g5
                    clear hgy g5
                    go_wp2_with fail
                    refine (HHE.out _ G5.out).mono ?_
                    rintro e w6 ⟨rfl, g6⟩
                    have G6 := Lib.hid g6
                    clear g6 hc12 hco HHE
                    go_wp2_with fail
                    refine (HPK.out _ (gr_none G5.out G6.out)).mono ?_
                    rintro e w7 ⟨rfl, g7⟩
                    have G7 := Lib.hid g7
                    clear g7 HPK
                    go_wp2_with fail
                    go_roundw
                    case rel => exact ⟨k + 1, n, O4, by omega, by go_num, by first | trivial | rfl | go_num, by omega, (sta_hs w1 d p L _ (k + 1)).ext ((sta_hs w1 d p L _ (k + 1)).ext HS4.out G6.out) G7.out⟩
                    case measure => simp [intOf] <;> omega
                  · have p3 : ((n : Int) == 0) = false := by rw [beq_eq_false_iff_ne]; omega
                    have p4 : ((y : Int) == 0) = false := by rw [beq_eq_false_iff_ne]; omega
                    clear ht
                    have G5 := Lib.hid g5
                    clear hgy g5
                    go_wp2_with fail
                    refine (HHE.out _ G5.out).mono ?_
                    rintro e w6 ⟨rfl, g6⟩
                    have G6 := Lib.hid g6
                    clear g6 hc12 hco HHE
                    go_wp2_with fail
                    refine (HPK.out _ (gr_none G5.out G6.out)).mono ?_
                    rintro e w7 ⟨rfl, g7⟩
                    have G7 := Lib.hid g7
                    clear g7 HPK
                    go_wp2_with fail
                    go_roundw
                    case rel => exact ⟨k + 1, n, O4, by omega, by go_num, by first | trivial | rfl | go_num, by omega, (sta_hs w1 d p L _ (k + 1)).ext ((sta_hs w1 d p L _ (k + 1)).ext HS4.out G6.out) G7.out⟩
                    case measure => simp [intOf] <;> omega
              · have hp : pinsBy kd er n = n := pinsBy_no _ _ k3 k4
                rw [hp] at HS4 HT4
                have e3 : (kd == 3) = false := by rw [beq_eq_false_iff_ne]; exact k3
                have e4 : (kd == 4) = false := by rw [beq_eq_false_iff_ne]; exact k4
                have ht := HT4.out
                have p1 : ¬ (n : Int) < (y : Int) := by omega
                have p2 : ¬ (n : Int) < 0 := by omega
                have hgy := g5
                clear hp
                by_cases hn0 : n = 0
                · have p3 : ((n : Int) == 0) = true := by rw [beq_iff_eq]; omega
                  have p4 : ((y : Int) == 0) = true := by rw [beq_iff_eq]; omega
                  clear ht
                  have G5 := Lib.hid g5
                  clear hgy g5
                  go_wp2_with fail
                  refine (HHE.out _ G5.out).mono ?_
                  rintro e w6 ⟨rfl, g6⟩
                  have G6 := Lib.hid g6
                  clear g6 hc12 hco HHE
                  go_wp2_with fail
                  refine (HPK.out _ (gr_none G5.out G6.out)).mono ?_
                  rintro e w7 ⟨rfl, g7⟩
                  have G7 := Lib.hid g7
                  clear g7 HPK
                  go_wp2_with fail
                  go_roundw
                  case rel => exact ⟨k + 1, n, O4, by omega, by go_num, by first | trivial | rfl | go_num, by omega, (sta_hs w1 d p L _ (k + 1)).ext ((sta_hs w1 d p L _ (k + 1)).ext HS4.out G6.out) G7.out⟩
                  case measure => simp [intOf] <;> omega
                · have p3 : ((n : Int) == 0) = false := by rw [beq_eq_false_iff_ne]; omega
                  have p4 : ((y : Int) == 0) = false := by rw [beq_eq_false_iff_ne]; omega
                  clear ht
                  have G5 := Lib.hid g5
                  clear hgy g5
                  go_wp2_with fail
                  refine (HHE.out _ G5.out).mono ?_
                  rintro e w6 ⟨rfl, g6⟩
                  have G6 := Lib.hid g6
                  clear g6 hc12 hco HHE
                  go_wp2_with fail
                  refine (HPK.out _ (gr_none G5.out G6.out)).mono ?_
                  rintro e w7 ⟨rfl, g7⟩
                  have G7 := Lib.hid g7
                  clear g7 HPK
                  go_wp2_with fail
                  go_roundw
                  case rel => exact ⟨k + 1, n, O4, by omega, by go_num, by first | trivial | rfl | go_num, by omega, (sta_hs w1 d p L _ (k + 1)).ext ((sta_hs w1 d p L _ (k + 1)).ext HS4.out G6.out) G7.out⟩
                  case measure => simp [intOf] <;> omega
          · obtain rfl : k = l.length := by omega
            have HGR := Lib.hid hgr
            clear hs hgr
            go_wp2_with fail
            refine (HWK.out _).mono ?_
            rintro e w9 ⟨rfl, g9⟩
            have G9 := Lib.hid g9
            clear g9 HWK
            go_wp2_with fail
            go_ret
            exact ⟨rfl, gr_none HGR.out G9.out⟩
end Go.Proofs.YtkfokgjpeaibpaaGreat
