/-
  slices.Sort at []uint32: partition, partitionEqual. (Printed by wip/tools/genpart.py.)
-/
import Derived.Test.YtbdieifggciopaaUb
namespace Go.Proofs.Ytbdieifggciopaa
open Go.RowKit
set_option maxRecDepth 100000
set_option maxHeartbeats 400000

/-- where a walk stops: ahead of a loop's block. -/
def Stop (p : Prop) : Prop := p
theorem Stop.out {p : Prop} (h : Stop p) : p := h
theorem Stop.mk_ {p : Prop} (h : p) : Stop p := h
set_option maxHeartbeats 8000000 in
theorem partEqU (g off cap a b pivot n : Nat) (d : Array UInt32) (w : World) (h : At32 w g off n d w) (hap : a ≤ pivot) (hpb : pivot < b) (hb : b ≤ n) (hn : n < 4611686018427387904) :
    Calls Try.prog 38 #[.slice (some ⟨g, off, none⟩) n cap, .int .i64 a, .int .i64 b, .int .i64 pivot] w fun e w' => e = .returned (.int .i64 (Go.Sort.partitionEqual ltU d a b pivot).1) ∧ At32 w g off n (Go.Sort.partitionEqual ltU d a b pivot).2 w' := by
  have hgw := Lib.hid h.2.2.1
  have hla : a < n := by omega
  have hlp : pivot < n := by omega
  obtain ⟨G, hG, hcw, hfw⟩ := h.cells
  have hat0 := Lib.hid (h.swap (i := a) (j := pivot) hla hlp hgw.out (hG _) (hG _)).drew
  obtain ⟨v', hy'⟩ := cell?_setCell_some (w := w) (p := ⟨g, off + a, none⟩) (x := .int .u32 (G pivot)) (q := ⟨g, off + pivot, none⟩) (hcw pivot hlp)
  clear hG
  go_enter Try.func38, Try.ntmps38
  go_wp2
  go_region
  all_goals go_wp2_with fail
  clear hcw hfw hy' v'
  generalize World.drew _ = W1 at *
  obtain ⟨dk, hdk⟩ : ∃ dk, dk = Go.Sort.swp d a pivot := ⟨_, rfl⟩
  rw [← hdk] at hat0
  have e1 : ((a : Int) + 1) = ((a + 1 : Nat) : Int) := by omega
  have e2 : ((b : Int) - 1) = ((b - 1 : Nat) : Int) := by omega
  rw [e1, e2]
  clear e1 e2
  obtain ⟨i, hi⟩ : ∃ i, i = a + 1 := ⟨_, rfl⟩
  obtain ⟨j, hj⟩ : ∃ j, j = b - 1 := ⟨_, rfl⟩
  rw [← hi, ← hj]
  have hai : a < i := by omega
  have hij : i ≤ j + 1 := by omega
  have hjb : j < b := by omega
  have HI := Lib.hid hi
  have HJ := Lib.hid hj
  have HDK := Lib.hid hdk
  clear hi hj hdk
  have HE : Hid (Go.Sort.partEqLoop ltU a i j dk = Go.Sort.partitionEqual ltU d a b pivot) := by show _ = _; rw [HI.out, HJ.out, HDK.out]; rfl
  clear HDK HI HJ
  go_loopw [9, 10] (fun vi vj wr => ∃ (i j : Nat) (dk : Array UInt32), vi = .int .i64 i ∧ vj = .int .i64 j ∧ a < i ∧ i ≤ j + 1 ∧ j < b ∧ Hid (At32 w g off n dk wr) ∧ Hid (Go.Sort.partEqLoop ltU a i j dk = Go.Sort.partitionEqual ltU d a b pivot)) (fun vi vj _ => (intOf vj).toNat + 1 - (intOf vi).toNat)
  case atStart => exact ⟨i, j, dk, rfl, rfl, hai, hij, hjb, hat0, HE⟩
  case round =>
    clear HE hat0 hai hij hjb
    obtain ⟨i, j, dk, rfl, rfl, hai, hij, hjb, hat, HE⟩ := hrel
    repeat (first | (with_reducible refine Stop.out (p := Code.wp _ (Code.block _ (Code.loop _)) _ _ _) ?_) | go_values | go_skip | go_guarded | go_step | go_upon | go_back)
    with_reducible refine Stop.mk_ ?_
    obtain ⟨G, hG, -, -⟩ := hat.out.cells
    have HG := Lib.hid hG
    clear hG
    go_cut [9] from 29 to 45 (fun s wc => (∃ i2 : Nat, s = .int .i64 i2 ∧ i ≤ i2 ∧ i2 ≤ j + 1 ∧ Hid (i2 = Go.Sort.scanUp (fun x => !ltU dk[a]! x) dk j i)) ∧ Hid (At32 w g off n dk wc))
    case first =>
      apply wp_block
      go_loopw [9] (fun vi wr => ∃ i2 : Nat, vi = .int .i64 i2 ∧ i ≤ i2 ∧ i2 ≤ j + 1 ∧ Hid (At32 w g off n dk wr) ∧ Hid (Go.Sort.scanUp (fun x => !ltU dk[a]! x) dk j i2 = Go.Sort.scanUp (fun x => !ltU dk[a]! x) dk j i)) (fun vi _ => j + 1 - (intOf vi).toNat)
      case atStart => exact ⟨i, rfl, Nat.le_refl _, hij, hat, Lib.hid rfl⟩
      case round =>
        obtain ⟨i2, rfl, h1, h2, hat2, hsc⟩ := hrel
        obtain ⟨hcw, hfw⟩ := hat2.out.cw HG.out
        by_cases hle : i2 ≤ j
        · go_wp2_with fail
          go_quiet (first | (go_at_call 37; refine Calls.quiet_of_same (lessU _ _ _)))
          have hat3 := Lib.hid (hat2.out.drewN nq)
          clear hcw hfw
          generalize World.drewN _ _ = wz at *
          cases hl : ltN (G a) (G i2)
          · go_wp2
            go_roundw
            case rel => exact ⟨i2 + 1, by go_num, by omega, by omega, hat3, Lib.hid ((scanUp_go (fun x => !ltU dk[a]! x) dk j i2 hle (by show (!ltU dk[a]! dk[i2]!) = true; rw [ltU_dec (HG.out _) (HG.out _), hl] <;> rfl)).symm.trans hsc.out)⟩
            case measure => simp [intOf]; omega
          · go_wp2_with fail
            go_meet
            case rel => exact ⟨⟨i2, rfl, h1, h2, Lib.hid ((scanUp_end (fun x => !ltU dk[a]! x) dk j i2 (.inr (by show (!ltU dk[a]! dk[i2]!) = false; rw [ltU_dec (HG.out _) (HG.out _), hl] <;> rfl))).symm.trans hsc.out)⟩, hat3⟩
        · go_wp2_with fail
          go_quiet (first | (go_at_call 37; refine Calls.quiet_of_same (lessU _ _ _)))
          go_wp2_with fail
          go_meet
          case rel => exact ⟨⟨i2, rfl, h1, h2, Lib.hid ((scanUp_end (fun x => !ltU dk[a]! x) dk j i2 (.inl hle)).symm.trans hsc.out)⟩, Lib.hid (hat2.out.drewN nq)⟩
    case rest =>
      obtain ⟨⟨i2, rfl, hi1, hi2, HI2⟩, hat1⟩ := hcut
      repeat (first | (with_reducible refine Stop.out (p := Code.wp _ (Code.block _ (Code.loop _)) _ _ _) ?_) | go_values | go_skip | go_guarded | go_step | go_upon | go_back)
      with_reducible refine Stop.mk_ ?_
      go_cut [10] from 46 to 61 (fun s wc => (∃ j2 : Nat, s = .int .i64 j2 ∧ j2 ≤ j ∧ i2 ≤ j2 + 1 ∧ Hid (j2 = Go.Sort.scanDown (fun x => ltU dk[a]! x) dk i2 j)) ∧ Hid (At32 w g off n dk wc))
      case first =>
        apply wp_block
        go_loopw [10] (fun vj wr => ∃ j2 : Nat, vj = .int .i64 j2 ∧ j2 ≤ j ∧ i2 ≤ j2 + 1 ∧ Hid (At32 w g off n dk wr) ∧ Hid (Go.Sort.scanDown (fun x => ltU dk[a]! x) dk i2 j2 = Go.Sort.scanDown (fun x => ltU dk[a]! x) dk i2 j)) (fun vj _ => (intOf vj).toNat)
        case atStart => exact ⟨j, rfl, Nat.le_refl _, hi2, hat1, Lib.hid rfl⟩
        case round =>
          obtain ⟨j2, rfl, h1, h2, hat2, hsc⟩ := hrel
          obtain ⟨hcw, hfw⟩ := hat2.out.cw HG.out
          by_cases hle : i2 ≤ j2
          · go_wp2_with fail
            go_quiet (first | (go_at_call 37; refine Calls.quiet_of_same (lessU _ _ _)))
            have hat3 := Lib.hid (hat2.out.drewN nq)
            clear hcw hfw
            generalize World.drewN _ _ = wz at *
            cases hl : ltN (G a) (G j2)
            · go_wp2_with fail
              go_meet
              case rel => exact ⟨⟨j2, rfl, h1, h2, Lib.hid ((scanDown_end (fun x => ltU dk[a]! x) dk i2 j2 (.inr (by show (ltU dk[a]! dk[j2]!) = false; rw [ltU_dec (HG.out _) (HG.out _), hl] <;> rfl))).symm.trans hsc.out)⟩, hat3⟩
            · go_wp2
              go_roundw
              case rel => exact ⟨j2 - 1, by go_num, by omega, by omega, hat3, Lib.hid ((scanDown_go (fun x => ltU dk[a]! x) dk i2 j2 hle (by omega) (by show (ltU dk[a]! dk[j2]!) = true; rw [ltU_dec (HG.out _) (HG.out _), hl] <;> rfl)).symm.trans hsc.out)⟩
              case measure => simp [intOf]; omega
          · go_wp2_with fail
            go_quiet (first | (go_at_call 37; refine Calls.quiet_of_same (lessU _ _ _)))
            go_wp2_with fail
            go_meet
            case rel => exact ⟨⟨j2, rfl, h1, h2, Lib.hid ((scanDown_end (fun x => ltU dk[a]! x) dk i2 j2 (.inl hle)).symm.trans hsc.out)⟩, Lib.hid (hat2.out.drewN nq)⟩
      case rest =>
        obtain ⟨⟨j2, rfl, hj1, hj2, HJ2⟩, hat2⟩ := hcut
        obtain ⟨hcw, hfw⟩ := hat2.out.cw HG.out
        by_cases hgt : j2 < i2
        · have HX : Hid ((i2, dk) = Go.Sort.partitionEqual ltU d a b pivot) := (partEq_break ltU a i j dk HI2.out HJ2.out hgt).symm.trans HE.out
          clear HI2 HJ2 HE
          go_wp2
          go_ret
          rw [← HX.out]
          exact ⟨rfl, hat2.out⟩
        · have HX := Lib.hid ((partEq_go ltU a i j dk HI2.out HJ2.out (by omega)).symm.trans HE.out)
          have hlt := scans_lt ltU a i j dk (by omega) HI2.out HJ2.out (by omega)
          clear HI2 HJ2 HE
          go_wp2_with fail
          go_region
          all_goals go_wp2
          go_roundw
          case rel => exact ⟨i2 + 1, j2 - 1, Go.Sort.swp dk i2 j2, by go_num, by go_num, by omega, by omega, by omega, Lib.hid (hat2.out.swap (by omega) (by omega) hgw.out (HG.out _) (HG.out _)).drew, HX⟩
          case measure => simp [intOf]; omega
set_option maxHeartbeats 8000000 in
theorem partU (g off cap a b pivot n : Nat) (d : Array UInt32) (w : World) (h : At32 w g off n d w) (hap : a ≤ pivot) (hpb : pivot < b) (hb : b ≤ n) (hn : n < 4611686018427387904) :
    Calls Try.prog 39 #[.slice (some ⟨g, off, none⟩) n cap, .int .i64 a, .int .i64 b, .int .i64 pivot] w fun e w' => e = .returned (.tuple #[.int .i64 (Go.Sort.partition ltU d a b pivot).1, .bool (Go.Sort.partition ltU d a b pivot).2.1]) ∧ At32 w g off n (Go.Sort.partition ltU d a b pivot).2.2 w' := by
  have hgw := Lib.hid h.2.2.1
  have hla : a < n := by omega
  have hlp : pivot < n := by omega
  obtain ⟨G, hG, hcw, hfw⟩ := h.cells
  have hat0 := Lib.hid (h.swap (i := a) (j := pivot) hla hlp hgw.out (hG _) (hG _)).drew
  obtain ⟨v', hy'⟩ := cell?_setCell_some (w := w) (p := ⟨g, off + a, none⟩) (x := .int .u32 (G pivot)) (q := ⟨g, off + pivot, none⟩) (hcw pivot hlp)
  clear hG
  go_enter Try.func39, Try.ntmps39
  go_wp2
  go_region
  all_goals repeat (first | (with_reducible refine Stop.out (p := Code.wp _ (Code.block _ (Code.loop _)) _ _ _) ?_) | go_values | go_skip | go_guarded | go_step | go_upon | go_back)
  with_reducible refine Stop.mk_ ?_
  clear hcw hfw hy' v'
  generalize World.drew _ = W1 at *
  obtain ⟨dk, hdk⟩ : ∃ dk, dk = Go.Sort.swp d a pivot := ⟨_, rfl⟩
  rw [← hdk] at hat0
  have e1 : ((a : Int) + 1) = ((a + 1 : Nat) : Int) := by omega
  have e2 : ((b : Int) - 1) = ((b - 1 : Nat) : Int) := by omega
  rw [e1, e2]
  clear e1 e2
  obtain ⟨i, hi⟩ : ∃ i, i = a + 1 := ⟨_, rfl⟩
  obtain ⟨j, hj⟩ : ∃ j, j = b - 1 := ⟨_, rfl⟩
  rw [← hi, ← hj]
  have hai : a < i := by omega
  have hij : i ≤ j + 1 := by omega
  have hjb : j < b := by omega
  have HI := Lib.hid hi
  have HJ := Lib.hid hj
  have HDK := Lib.hid hdk
  clear hi hj hdk
  have hat := hat0
  clear hat0
  obtain ⟨G, hG, -, -⟩ := hat.out.cells
  have HG := Lib.hid hG
  clear hG
  go_cut [10] from 30 to 45 (fun s wc => (∃ i2 : Nat, s = .int .i64 i2 ∧ i ≤ i2 ∧ i2 ≤ j + 1 ∧ Hid (i2 = Go.Sort.scanUp (fun x => ltU x dk[a]!) dk j i)) ∧ Hid (At32 w g off n dk wc))
  case first =>
    apply wp_block
    go_loopw [10] (fun vi wr => ∃ i2 : Nat, vi = .int .i64 i2 ∧ i ≤ i2 ∧ i2 ≤ j + 1 ∧ Hid (At32 w g off n dk wr) ∧ Hid (Go.Sort.scanUp (fun x => ltU x dk[a]!) dk j i2 = Go.Sort.scanUp (fun x => ltU x dk[a]!) dk j i)) (fun vi _ => j + 1 - (intOf vi).toNat)
    case atStart => exact ⟨i, rfl, Nat.le_refl _, hij, hat, Lib.hid rfl⟩
    case round =>
      obtain ⟨i2, rfl, h1, h2, hat2, hsc⟩ := hrel
      obtain ⟨hcw, hfw⟩ := hat2.out.cw HG.out
      by_cases hle : i2 ≤ j
      · go_wp2_with fail
        go_quiet (first | (go_at_call 37; refine Calls.quiet_of_same (lessU _ _ _)))
        have hat3 := Lib.hid (hat2.out.drewN nq)
        clear hcw hfw
        generalize World.drewN _ _ = wz at *
        cases hl : ltN (G i2) (G a)
        · go_wp2_with fail
          go_meet
          case rel => exact ⟨⟨i2, rfl, h1, h2, Lib.hid ((scanUp_end (fun x => ltU x dk[a]!) dk j i2 (.inr (by show (ltU dk[i2]! dk[a]!) = false; rw [ltU_dec (HG.out _) (HG.out _), hl] <;> rfl))).symm.trans hsc.out)⟩, hat3⟩
        · go_wp2
          go_roundw
          case rel => exact ⟨i2 + 1, by go_num, by omega, by omega, hat3, Lib.hid ((scanUp_go (fun x => ltU x dk[a]!) dk j i2 hle (by show (ltU dk[i2]! dk[a]!) = true; rw [ltU_dec (HG.out _) (HG.out _), hl] <;> rfl)).symm.trans hsc.out)⟩
          case measure => simp [intOf]; omega
      · go_wp2_with fail
        go_quiet (first | (go_at_call 37; refine Calls.quiet_of_same (lessU _ _ _)))
        go_wp2_with fail
        go_meet
        case rel => exact ⟨⟨i2, rfl, h1, h2, Lib.hid ((scanUp_end (fun x => ltU x dk[a]!) dk j i2 (.inl hle)).symm.trans hsc.out)⟩, Lib.hid (hat2.out.drewN nq)⟩
  case rest =>
    obtain ⟨⟨i2, rfl, hi1, hi2, HI2⟩, hat1⟩ := hcut
    repeat (first | (with_reducible refine Stop.out (p := Code.wp _ (Code.block _ (Code.loop _)) _ _ _) ?_) | go_values | go_skip | go_guarded | go_step | go_upon | go_back)
    with_reducible refine Stop.mk_ ?_
    go_cut [11] from 46 to 62 (fun s wc => (∃ j2 : Nat, s = .int .i64 j2 ∧ j2 ≤ j ∧ i2 ≤ j2 + 1 ∧ Hid (j2 = Go.Sort.scanDown (fun x => !ltU x dk[a]!) dk i2 j)) ∧ Hid (At32 w g off n dk wc))
    case first =>
      apply wp_block
      go_loopw [11] (fun vj wr => ∃ j2 : Nat, vj = .int .i64 j2 ∧ j2 ≤ j ∧ i2 ≤ j2 + 1 ∧ Hid (At32 w g off n dk wr) ∧ Hid (Go.Sort.scanDown (fun x => !ltU x dk[a]!) dk i2 j2 = Go.Sort.scanDown (fun x => !ltU x dk[a]!) dk i2 j)) (fun vj _ => (intOf vj).toNat)
      case atStart => exact ⟨j, rfl, Nat.le_refl _, hi2, hat1, Lib.hid rfl⟩
      case round =>
        obtain ⟨j2, rfl, h1, h2, hat2, hsc⟩ := hrel
        obtain ⟨hcw, hfw⟩ := hat2.out.cw HG.out
        by_cases hle : i2 ≤ j2
        · go_wp2_with fail
          go_quiet (first | (go_at_call 37; refine Calls.quiet_of_same (lessU _ _ _)))
          have hat3 := Lib.hid (hat2.out.drewN nq)
          clear hcw hfw
          generalize World.drewN _ _ = wz at *
          cases hl : ltN (G j2) (G a)
          · go_wp2
            go_roundw
            case rel => exact ⟨j2 - 1, by go_num, by omega, by omega, hat3, Lib.hid ((scanDown_go (fun x => !ltU x dk[a]!) dk i2 j2 hle (by omega) (by show (!ltU dk[j2]! dk[a]!) = true; rw [ltU_dec (HG.out _) (HG.out _), hl] <;> rfl)).symm.trans hsc.out)⟩
            case measure => simp [intOf]; omega
          · go_wp2_with fail
            go_meet
            case rel => exact ⟨⟨j2, rfl, h1, h2, Lib.hid ((scanDown_end (fun x => !ltU x dk[a]!) dk i2 j2 (.inr (by show (!ltU dk[j2]! dk[a]!) = false; rw [ltU_dec (HG.out _) (HG.out _), hl] <;> rfl))).symm.trans hsc.out)⟩, hat3⟩
        · go_wp2_with fail
          go_quiet (first | (go_at_call 37; refine Calls.quiet_of_same (lessU _ _ _)))
          go_wp2_with fail
          go_meet
          case rel => exact ⟨⟨j2, rfl, h1, h2, Lib.hid ((scanDown_end (fun x => !ltU x dk[a]!) dk i2 j2 (.inl hle)).symm.trans hsc.out)⟩, Lib.hid (hat2.out.drewN nq)⟩
    case rest =>
      obtain ⟨⟨j2, rfl, hj1, hj2, HJ2⟩, hat2⟩ := hcut
      obtain ⟨hcw, hfw⟩ := hat2.out.cw HG.out
      by_cases hgt : j2 < i2
      · have HX := Lib.hid (part_first_break ltU d a b pivot HI.out HJ.out HDK.out HI2.out HJ2.out hgt)
        clear HI HJ HDK HI2 HJ2
        obtain ⟨v', hy'⟩ := cell?_setCell_some (w := wc) (p := ⟨g, off + j2, none⟩) (x := .int .u32 (G a)) (q := ⟨g, off + a, none⟩) (hcw a (by omega))
        have hlj : j2 < n := by omega
        have hatz := Lib.hid (hat2.out.swap (i := j2) (j := a) (by omega) (by omega) hgw.out (HG.out _) (HG.out _)).drew
        go_wp2_with fail
        go_region
        all_goals go_wp2
        go_ret2
        rw [HX.out]
        exact ⟨rfl, hatz.out⟩
      · have HX := Lib.hid (part_first_go ltU d a b pivot HI.out HJ.out HDK.out HI2.out HJ2.out (by omega))
        have hlt := part_scans_lt ltU a i j dk (by omega) HI2.out HJ2.out (by omega)
        have hatz := Lib.hid (hat2.out.swap (i := i2) (j := j2) (by omega) (by omega) hgw.out (HG.out _) (HG.out _)).drew
        clear HI HJ HDK HI2 HJ2
        go_wp2_with fail
        go_region
        all_goals go_wp2
        obtain ⟨R, hR⟩ : ∃ R, R = Go.Sort.partLoop ltU a (i2 + 1) (j2 - 1) (Go.Sort.swp dk i2 j2) := ⟨_, rfl⟩
        rw [← hR] at HX
        have HR := Lib.hid hR.symm
        clear hR hcw hfw hat hat1 hat2 HG
        generalize World.drew _ = W2 at *
        generalize Go.Sort.swp dk i2 j2 = dn at *
        clear dk
        go_loopw [10, 11] (fun vi vj wr => ∃ (i j : Nat) (dk : Array UInt32), vi = .int .i64 i ∧ vj = .int .i64 j ∧ a < i ∧ i ≤ j + 1 ∧ j < b ∧ Hid (At32 w g off n dk wr) ∧ Hid (Go.Sort.partLoop ltU a i j dk = R)) (fun vi vj _ => (intOf vj).toNat + 1 - (intOf vi).toNat)
        case atStart => exact ⟨i2 + 1, j2 - 1, dn, by go_num, by go_num, by omega, by omega, by omega, hatz, HR⟩
        case round =>
          clear HR hatz
          obtain ⟨i, j, dk, rfl, rfl, hai, hij, hjb, hat, HE⟩ := hrel
          repeat (first | (with_reducible refine Stop.out (p := Code.wp _ (Code.block _ (Code.loop _)) _ _ _) ?_) | go_values | go_skip | go_guarded | go_step | go_upon | go_back)
          with_reducible refine Stop.mk_ ?_
          obtain ⟨G, hG, -, -⟩ := hat.out.cells
          have HG := Lib.hid hG
          clear hG
          go_cut [10] from 99 to 114 (fun s wc => (∃ i2 : Nat, s = .int .i64 i2 ∧ i ≤ i2 ∧ i2 ≤ j + 1 ∧ Hid (i2 = Go.Sort.scanUp (fun x => ltU x dk[a]!) dk j i)) ∧ Hid (At32 w g off n dk wc))
          case first =>
            apply wp_block
            go_loopw [10] (fun vi wr => ∃ i2 : Nat, vi = .int .i64 i2 ∧ i ≤ i2 ∧ i2 ≤ j + 1 ∧ Hid (At32 w g off n dk wr) ∧ Hid (Go.Sort.scanUp (fun x => ltU x dk[a]!) dk j i2 = Go.Sort.scanUp (fun x => ltU x dk[a]!) dk j i)) (fun vi _ => j + 1 - (intOf vi).toNat)
            case atStart => exact ⟨i, rfl, Nat.le_refl _, hij, hat, Lib.hid rfl⟩
            case round =>
              obtain ⟨i2, rfl, h1, h2, hat2, hsc⟩ := hrel
              obtain ⟨hcw, hfw⟩ := hat2.out.cw HG.out
              by_cases hle : i2 ≤ j
              · go_wp2_with fail
                go_quiet (first | (go_at_call 37; refine Calls.quiet_of_same (lessU _ _ _)))
                have hat3 := Lib.hid (hat2.out.drewN nq)
                clear hcw hfw
                generalize World.drewN _ _ = wz at *
                cases hl : ltN (G i2) (G a)
                · go_wp2_with fail
                  go_meet
                  case rel => exact ⟨⟨i2, rfl, h1, h2, Lib.hid ((scanUp_end (fun x => ltU x dk[a]!) dk j i2 (.inr (by show (ltU dk[i2]! dk[a]!) = false; rw [ltU_dec (HG.out _) (HG.out _), hl] <;> rfl))).symm.trans hsc.out)⟩, hat3⟩
                · go_wp2
                  go_roundw
                  case rel => exact ⟨i2 + 1, by go_num, by omega, by omega, hat3, Lib.hid ((scanUp_go (fun x => ltU x dk[a]!) dk j i2 hle (by show (ltU dk[i2]! dk[a]!) = true; rw [ltU_dec (HG.out _) (HG.out _), hl] <;> rfl)).symm.trans hsc.out)⟩
                  case measure => simp [intOf]; omega
              · go_wp2_with fail
                go_quiet (first | (go_at_call 37; refine Calls.quiet_of_same (lessU _ _ _)))
                go_wp2_with fail
                go_meet
                case rel => exact ⟨⟨i2, rfl, h1, h2, Lib.hid ((scanUp_end (fun x => ltU x dk[a]!) dk j i2 (.inl hle)).symm.trans hsc.out)⟩, Lib.hid (hat2.out.drewN nq)⟩
          case rest =>
            obtain ⟨⟨i2, rfl, hi1, hi2, HI2⟩, hat1⟩ := hcut
            repeat (first | (with_reducible refine Stop.out (p := Code.wp _ (Code.block _ (Code.loop _)) _ _ _) ?_) | go_values | go_skip | go_guarded | go_step | go_upon | go_back)
            with_reducible refine Stop.mk_ ?_
            go_cut [11] from 115 to 131 (fun s wc => (∃ j2 : Nat, s = .int .i64 j2 ∧ j2 ≤ j ∧ i2 ≤ j2 + 1 ∧ Hid (j2 = Go.Sort.scanDown (fun x => !ltU x dk[a]!) dk i2 j)) ∧ Hid (At32 w g off n dk wc))
            case first =>
              apply wp_block
              go_loopw [11] (fun vj wr => ∃ j2 : Nat, vj = .int .i64 j2 ∧ j2 ≤ j ∧ i2 ≤ j2 + 1 ∧ Hid (At32 w g off n dk wr) ∧ Hid (Go.Sort.scanDown (fun x => !ltU x dk[a]!) dk i2 j2 = Go.Sort.scanDown (fun x => !ltU x dk[a]!) dk i2 j)) (fun vj _ => (intOf vj).toNat)
              case atStart => exact ⟨j, rfl, Nat.le_refl _, hi2, hat1, Lib.hid rfl⟩
              case round =>
                obtain ⟨j2, rfl, h1, h2, hat2, hsc⟩ := hrel
                obtain ⟨hcw, hfw⟩ := hat2.out.cw HG.out
                by_cases hle : i2 ≤ j2
                · go_wp2_with fail
                  go_quiet (first | (go_at_call 37; refine Calls.quiet_of_same (lessU _ _ _)))
                  have hat3 := Lib.hid (hat2.out.drewN nq)
                  clear hcw hfw
                  generalize World.drewN _ _ = wz at *
                  cases hl : ltN (G j2) (G a)
                  · go_wp2
                    go_roundw
                    case rel => exact ⟨j2 - 1, by go_num, by omega, by omega, hat3, Lib.hid ((scanDown_go (fun x => !ltU x dk[a]!) dk i2 j2 hle (by omega) (by show (!ltU dk[j2]! dk[a]!) = true; rw [ltU_dec (HG.out _) (HG.out _), hl] <;> rfl)).symm.trans hsc.out)⟩
                    case measure => simp [intOf]; omega
                  · go_wp2_with fail
                    go_meet
                    case rel => exact ⟨⟨j2, rfl, h1, h2, Lib.hid ((scanDown_end (fun x => !ltU x dk[a]!) dk i2 j2 (.inr (by show (!ltU dk[j2]! dk[a]!) = false; rw [ltU_dec (HG.out _) (HG.out _), hl] <;> rfl))).symm.trans hsc.out)⟩, hat3⟩
                · go_wp2_with fail
                  go_quiet (first | (go_at_call 37; refine Calls.quiet_of_same (lessU _ _ _)))
                  go_wp2_with fail
                  go_meet
                  case rel => exact ⟨⟨j2, rfl, h1, h2, Lib.hid ((scanDown_end (fun x => !ltU x dk[a]!) dk i2 j2 (.inl hle)).symm.trans hsc.out)⟩, Lib.hid (hat2.out.drewN nq)⟩
            case rest =>
              obtain ⟨⟨j2, rfl, hj1, hj2, HJ2⟩, hat2⟩ := hcut
              obtain ⟨hcw, hfw⟩ := hat2.out.cw HG.out
              by_cases hgt : j2 < i2
              · have HY : Hid ((j2, dk) = R) := (part_break ltU a i j dk HI2.out HJ2.out hgt).symm.trans HE.out
                clear HI2 HJ2 HE
                obtain ⟨v', hy'⟩ := cell?_setCell_some (w := wc) (p := ⟨g, off + j2, none⟩) (x := .int .u32 (G a)) (q := ⟨g, off + a, none⟩) (hcw a (by omega))
                have hlj : j2 < n := by omega
                have hatz := Lib.hid (hat2.out.swap (i := j2) (j := a) (by omega) (by omega) hgw.out (HG.out _) (HG.out _)).drew
                go_wp2_with fail
                go_region
                all_goals go_wp2
                go_ret2
                rw [HX.out, ← HY.out]
                exact ⟨rfl, hatz.out⟩
              · have HY := Lib.hid ((part_go ltU a i j dk HI2.out HJ2.out (by omega)).symm.trans HE.out)
                have hlt := part_scans_lt ltU a i j dk (by omega) HI2.out HJ2.out (by omega)
                clear HI2 HJ2 HE
                go_wp2_with fail
                go_region
                all_goals go_wp2
                go_roundw
                case rel => exact ⟨i2 + 1, j2 - 1, Go.Sort.swp dk i2 j2, by go_num, by go_num, by omega, by omega, by omega, Lib.hid (hat2.out.swap (by omega) (by omega) hgw.out (HG.out _) (HG.out _)).drew, HY⟩
                case measure => simp [intOf]; omega
end Go.Proofs.Ytbdieifggciopaa
