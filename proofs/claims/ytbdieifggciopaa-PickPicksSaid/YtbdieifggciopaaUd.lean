/-
  slices.Sort at []uint32: partialInsertionSort.
-/
import Derived.Test.YtbdieifggciopaaUc
namespace Go.Proofs.Ytbdieifggciopaa
open Go.RowKit
set_option maxRecDepth 100000
set_option maxHeartbeats 400000

set_option maxHeartbeats 16000000 in
theorem partialU (g off cap a b n : Nat) (d : Array UInt32) (w : World) (h : At32 w g off n d w) (hab : a < b) (hb : b ≤ n) (hn : n < 4611686018427387904) :
    Calls Try.prog 36 #[.slice (some ⟨g, off, none⟩) n cap, .int .i64 a, .int .i64 b] w fun e w' => e = .returned (.bool (Go.Sort.partialInsertionSort ltU d a b).2) ∧ At32 w g off n (Go.Sort.partialInsertionSort ltU d a b).1 w' := by
  have hgw := Lib.hid h.2.2.1
  go_enter Try.func36, Try.ntmps36
  go_wp2
  go_loopw [7, 8] (fun vi vs wr => ∃ (i s : Nat) (dk : Array UInt32), vi = .int .i64 i ∧ vs = .int .i64 s ∧ s ≤ 5 ∧ a < i ∧ i ≤ b ∧ Hid (At32 w g off n dk wr) ∧ Hid (Go.Sort.partialIns ltU a b (5 - s) i dk = Go.Sort.partialInsertionSort ltU d a b)) (fun _ vs _ => 5 - (intOf vs).toNat)
  case atStart => exact ⟨a + 1, 0, d, by go_num, rfl, by omega, by omega, by omega, h, Lib.hid rfl⟩
  case round =>
    obtain ⟨i, s, dk, rfl, rfl, hs, hai, hib, hat, hP⟩ := hrel
    by_cases h5 : s < 5
    · obtain ⟨G, hG, -, -⟩ := hat.out.cells
      have HG := Lib.hid hG
      clear hG
      repeat (first | (with_reducible refine Stop.out (p := Code.wp _ (Code.block _ (Code.loop _)) _ _ _) ?_) | go_values | go_skip | go_guarded | go_step | go_upon | go_back)
      with_reducible refine Stop.mk_ ?_
      go_cut [7] from 17 to 34 (fun s7 wc => (∃ k : Nat, s7 = .int .i64 k ∧ i ≤ k ∧ k ≤ b ∧ Hid (Go.Sort.scanSorted ltU dk b i = k)) ∧ Hid (At32 w g off n dk wc))
      case first =>
        apply wp_block
        go_loopw [7] (fun vi wr => ∃ k : Nat, vi = .int .i64 k ∧ i ≤ k ∧ k ≤ b ∧ Hid (At32 w g off n dk wr) ∧ Hid (Go.Sort.scanSorted ltU dk b k = Go.Sort.scanSorted ltU dk b i)) (fun vi _ => b + 1 - (intOf vi).toNat)
        case atStart => exact ⟨i, rfl, Nat.le_refl _, hib, hat, Lib.hid rfl⟩
        case round =>
          obtain ⟨k, rfl, h1, h2, hat2, hsc⟩ := hrel
          obtain ⟨hcw, hfw⟩ := hat2.out.cw HG.out
          by_cases hle : k < b
          · go_wp2_with fail
            go_quiet (first | (go_at_call 37; refine Calls.quiet_of_same (lessU _ _ _)))
            have hat3 := Lib.hid (hat2.out.drewN nq)
            clear hcw hfw
            generalize World.drewN _ _ = wz at *
            cases hl : ltN (G k) (G (k - 1))
            · go_wp2
              go_roundw
              case rel => exact ⟨k + 1, by go_num, by omega, by omega, hat3, Lib.hid ((scanSorted_go ltU dk b k hle (by rw [ltU_dec (HG.out _) (HG.out _), hl])).symm.trans hsc.out)⟩
              case measure => simp [intOf]; omega
            · go_wp2_with fail
              go_meet
              case rel => exact ⟨⟨k, rfl, h1, h2, Lib.hid (hsc.out.symm.trans (scanSorted_stop ltU dk b k (.inr (by rw [ltU_dec (HG.out _) (HG.out _), hl]))))⟩, hat3⟩
          · go_wp2_with fail
            go_quiet (first | (go_at_call 37; refine Calls.quiet_of_same (lessU _ _ _)))
            go_wp2_with fail
            go_meet
            case rel => exact ⟨⟨k, rfl, h1, h2, Lib.hid (hsc.out.symm.trans (scanSorted_stop ltU dk b k (.inl hle)))⟩, Lib.hid (hat2.out.drewN nq)⟩
      case rest =>
        obtain ⟨⟨k, rfl, hik, hkb, hK⟩, hat2⟩ := hcut
        by_cases hke : k = b
        · have HX := Lib.hid ((pi_true ltU a b s i dk h5 (by rw [hK.out, hke])).symm.trans hP.out)
          have hz : ((k : Int) == (b : Int)) = true := by simp; omega
          clear hK hP hke
          go_wp2
          go_ret
          rw [← HX.out]
          exact ⟨rfl, hat2.out⟩
        · have hz : ((k : Int) == (b : Int)) = false := by simp; omega
          have hkb' : k < b := by omega
          by_cases h50 : b - a < 50
          · have HX := Lib.hid ((pi_short ltU a b s i dk h5 (by rw [hK.out]; exact hke) h50).symm.trans hP.out)
            have hz2 : (b : Int) - (a : Int) < 50 := by omega
            clear hK hP hke
            go_wp2
            go_ret
            rw [← HX.out]
            exact ⟨rfl, hat2.out⟩
          · have hz2 : ¬ (b : Int) - (a : Int) < 50 := by omega
            have HX := Lib.hid ((pi_go ltU a b s i k dk h5 hK.out hke h50).symm.trans hP.out)
            have hatz := Lib.hid (hat2.out.swap (i := k) (j := k - 1) (by omega) (by omega) hgw.out (HG.out _) (HG.out _)).drew
            obtain ⟨hcw, hfw⟩ := hat2.out.cw HG.out
            clear hK hP hke
            go_wp2_with fail
            go_region
            go_upto_if 61 with fail
            clear hcw hfw hat hat2 HG
            generalize World.drew _ = W2 at *
            generalize Go.Sort.swp dk k (k - 1) = d1 at *
            go_cut [] from 62 to 94 (fun wc => Hid (At32 w g off n (Go.Sort.fixDown ltU a k d1) wc))
            case first =>
              by_cases h2 : 2 ≤ k - a
              · have h2z : (2 : Int) ≤ (k : Int) - (a : Int) := by omega
                have HF : Hid (Go.Sort.fixDown ltU a k d1 = Go.Sort.shiftDown ltU (k - 1) d1) := by show _ = _; unfold Go.Sort.fixDown; rw [if_pos h2]
                go_wp2_with fail
                go_loopw [9] (fun vj wr => ∃ (j : Nat) (dj : Array UInt32), vj = .int .i64 j ∧ j < n ∧ Hid (At32 w g off n dj wr) ∧ Hid (Go.Sort.shiftDown ltU j dj = Go.Sort.shiftDown ltU (k - 1) d1)) (fun vj _ => (intOf vj).toNat)
                case atStart => exact ⟨k - 1, d1, by congr 1; omega, by omega, hatz, Lib.hid rfl⟩
                case round =>
                  obtain ⟨j, dj, rfl, hjn, hat3, hS⟩ := hrel
                  obtain ⟨G, hG, hcw, hfw⟩ := hat3.out.cells
                  have HG := Lib.hid hG
                  clear hG
                  by_cases hj : 1 ≤ j
                  · go_wp2_with fail
                    go_quiet (first | (go_at_call 37; refine Calls.quiet_of_same (lessU _ _ _)))
                    have hat4 := Lib.hid (hat3.out.drewN nq)
                    clear hcw hfw
                    generalize World.drewN _ _ = wz at *
                    cases hl : ltN (G j) (G (j - 1))
                    · have HE := Lib.hid (hS.out.symm.trans (shiftDown_stop ltU j dj (.inr (by rw [ltU_dec (HG.out _) (HG.out _), hl]))))
                      go_wp2_with fail
                      go_meet
                      case rel => show Hid (At32 w g off n (Go.Sort.fixDown ltU a k d1) _); rw [HF.out, HE.out]; exact hat4
                    · have HE := Lib.hid ((shiftDown_go ltU j dj hj (by rw [ltU_dec (HG.out _) (HG.out _), hl])).symm.trans hS.out)
                      obtain ⟨hcw, hfw⟩ := hat4.out.cw HG.out
                      go_wp2_with fail
                      go_region
                      all_goals go_wp2
                      go_roundw
                      case rel => exact ⟨j - 1, Go.Sort.swp dj j (j - 1), by congr 1; omega, by omega, Lib.hid (hat4.out.swap (by omega) (by omega) hgw.out (HG.out _) (HG.out _)).drew, HE⟩
                      case measure => simp [intOf]; omega
                  · have HE := Lib.hid (hS.out.symm.trans (shiftDown_stop ltU j dj (.inl (by omega))))
                    go_wp2_with fail
                    go_meet
                    case rel => show Hid (At32 w g off n (Go.Sort.fixDown ltU a k d1) _); rw [HF.out, HE.out]; exact hat3
              · have h2z : ¬ (2 : Int) ≤ (k : Int) - (a : Int) := by omega
                have HF : Hid (Go.Sort.fixDown ltU a k d1 = d1) := by show _ = _; unfold Go.Sort.fixDown; rw [if_neg h2]
                go_wp2_with fail
                go_meet
                case rel => show Hid (At32 w g off n (Go.Sort.fixDown ltU a k d1) _); rw [HF.out]; exact hatz
            case rest =>
              clear hatz
              have hatz := hcut
              clear hcut
              generalize Go.Sort.fixDown ltU a k d1 = d1 at *
              by_cases h2 : 2 ≤ b - k
              · have h2z : (2 : Int) ≤ (b : Int) - (k : Int) := by omega
                have HF : Hid (Go.Sort.fixUp ltU b k d1 = Go.Sort.shiftUp ltU b (k + 1) d1) := by show _ = _; unfold Go.Sort.fixUp; rw [if_pos h2]
                go_wp2_with fail
                go_loopw [10] (fun vj wr => ∃ (j : Nat) (dj : Array UInt32), vj = .int .i64 j ∧ 1 ≤ j ∧ j ≤ b ∧ Hid (At32 w g off n dj wr) ∧ Hid (Go.Sort.shiftUp ltU b j dj = Go.Sort.shiftUp ltU b (k + 1) d1)) (fun vj _ => b - (intOf vj).toNat)
                case atStart => exact ⟨k + 1, d1, by go_num, by omega, by omega, hatz, Lib.hid rfl⟩
                case round =>
                  obtain ⟨j, dj, rfl, hj1, hjb, hat3, hS⟩ := hrel
                  obtain ⟨G, hG, hcw, hfw⟩ := hat3.out.cells
                  have HG := Lib.hid hG
                  clear hG
                  by_cases hj : j < b
                  · go_wp2_with fail
                    go_quiet (first | (go_at_call 37; refine Calls.quiet_of_same (lessU _ _ _)))
                    have hat4 := Lib.hid (hat3.out.drewN nq)
                    clear hcw hfw
                    generalize World.drewN _ _ = wz at *
                    cases hl : ltN (G j) (G (j - 1))
                    · have HE := Lib.hid (hS.out.symm.trans (shiftUp_stop ltU b j dj (.inr (by rw [ltU_dec (HG.out _) (HG.out _), hl]))))
                      go_wp2
                      go_roundw
                      case rel => exact ⟨k, s + 1, Go.Sort.fixUp ltU b k d1, rfl, by go_num, by omega, by omega, by omega, Lib.hid (by rw [HF.out, HE.out]; exact hat4.out), HX⟩
                      case measure => simp [intOf]; omega
                    · have HE := Lib.hid ((shiftUp_go ltU b j dj hj (by rw [ltU_dec (HG.out _) (HG.out _), hl])).symm.trans hS.out)
                      obtain ⟨hcw, hfw⟩ := hat4.out.cw HG.out
                      go_wp2_with fail
                      go_region
                      all_goals go_wp2
                      go_roundw
                      case rel => exact ⟨j + 1, Go.Sort.swp dj j (j - 1), by go_num, by omega, by omega, Lib.hid (hat4.out.swap (by omega) (by omega) hgw.out (HG.out _) (HG.out _)).drew, HE⟩
                      case measure => simp [intOf]; omega
                  · have HE := Lib.hid (hS.out.symm.trans (shiftUp_stop ltU b j dj (.inl hj)))
                    go_wp2
                    go_roundw
                    case rel => exact ⟨k, s + 1, Go.Sort.fixUp ltU b k d1, rfl, by go_num, by omega, by omega, by omega, Lib.hid (by rw [HF.out, HE.out]; exact hat3.out), HX⟩
                    case measure => simp [intOf]; omega
              · have h2z : ¬ (2 : Int) ≤ (b : Int) - (k : Int) := by omega
                have HF : Hid (Go.Sort.fixUp ltU b k d1 = d1) := by show _ = _; unfold Go.Sort.fixUp; rw [if_neg h2]
                go_wp2
                go_roundw
                case rel => exact ⟨k, s + 1, Go.Sort.fixUp ltU b k d1, rfl, by go_num, by omega, by omega, by omega, Lib.hid (by rw [HF.out]; exact hatz.out), HX⟩
                case measure => simp [intOf]; omega
    · obtain rfl : s = 5 := by omega
      have HX : Hid ((dk, false) = Go.Sort.partialInsertionSort ltU d a b) := hP.out
      clear hP
      go_wp2
      go_ret
      rw [← HX.out]
      exact ⟨rfl, hat.out⟩
end Go.Proofs.Ytbdieifggciopaa
