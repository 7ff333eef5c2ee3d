/-
  slices.Sort at []uint32: reverseRange, siftDown, heapSort.
-/
import Derived.Test.YtbdieifggciopaaUa
import Derived.Deep.CutRange
namespace Go.Proofs.Ytbdieifggciopaa
open Go.RowKit
set_option maxRecDepth 100000
set_option maxHeartbeats 400000

theorem At32.cw {w0 w : World} {g off n : Nat} {d : Array UInt32} {G : Nat → Nat} (h : At32 w0 g off n d w) (hG : ∀ t, G t = d[t]!.toNat) : (∀ t, t < n → w.cell? ⟨g, off + t, none⟩ = some (.int .u32 (G t))) ∧ ∀ t, t < n → w.frozen? ⟨g, off + t, none⟩ = false :=
  ⟨fun t ht => by rw [hG]; exact (h.2.1 t (by rw [h.1]; exact ht)).1, fun t ht => (h.2.1 t (by rw [h.1]; exact ht)).2⟩
set_option maxHeartbeats 4000000 in
theorem reverseU (g off cap a b n : Nat) (d : Array UInt32) (w : World) (h : At32 w g off n d w) (hab : a ≤ b) (hb : b ≤ n) (hn : n < 4611686018427387904) :
    Calls Try.prog 35 #[.slice (some ⟨g, off, none⟩) n cap, .int .i64 a, .int .i64 b] w fun e w' => e = .returned (.tuple #[]) ∧ At32 w g off n (Go.Sort.reverseRange d a b) w' := by
  have hgw := Lib.hid h.2.2.1
  go_enter Try.func35, Try.ntmps35
  go_wp2
  go_loopw [6, 7] (fun vi vj wr => ∃ (i jn : Nat) (jz : Int) (dk : Array UInt32), vi = .int .i64 i ∧ vj = .int .i64 jz ∧ ((i : Int) < jz → jz = jn ∧ jn < n) ∧ (¬ (i : Int) < jz → ¬ i < jn) ∧ Hid (At32 w g off n dk wr) ∧ Hid (Go.Sort.reverseLoop i jn dk = Go.Sort.reverseLoop a (b - 1) d)) (fun vi vj _ => (intOf vj - intOf vi).toNat)
  case atStart => exact ⟨a, b - 1, (b : Int) - 1, d, rfl, rfl, fun h => ⟨by omega, by omega⟩, fun h => by omega, h, Lib.hid rfl⟩
  case round =>
    obtain ⟨i, jn, jz, dk, rfl, rfl, h1, h2, hat, hR⟩ := hrel
    by_cases hlt : (i : Int) < jz
    · obtain ⟨rfl, hjn⟩ := h1 hlt
      have hij : i < jn := by omega
      obtain ⟨G, hG, hcw, hfw⟩ := hat.out.cells
      have HG := Lib.hid hG
      have HR : Hid (Go.Sort.reverseLoop (i + 1) (jn - 1) (Go.Sort.swp dk i jn) = Go.Sort.reverseLoop a (b - 1) d) := by
        have := hR.out
        rw [Go.Sort.reverseLoop, if_pos hij] at this
        exact this
      clear h1 h2 hG hR
      go_wp2_with fail
      go_region
      all_goals go_wp2
      go_roundw
      case rel => exact ⟨i + 1, jn - 1, (jn : Int) - 1, Go.Sort.swp dk i jn, by go_num, rfl, fun h => ⟨by omega, by omega⟩, fun h => by omega, Lib.hid (hat.out.swap (by omega) (by omega) hgw.out (HG.out _) (HG.out _)).drew, HR⟩
      case measure => simp [intOf]; omega
    · have hnot := h2 hlt
      clear h1 h2
      go_wp2
      go_end0
      refine ⟨rfl, ?_⟩
      have hr := hR.out
      rw [Go.Sort.reverseLoop, if_neg hnot] at hr
      rw [Go.Sort.reverseRange, ← hr]
      exact hat.out
set_option maxHeartbeats 8000000 in
theorem siftU (g off cap lo hi F n : Nat) (d : Array UInt32) (w : World) (h : At32 w g off n d w) (hlo : lo ≤ hi) (hb : F + hi ≤ n) (hn : n < 4611686018427387904) :
    Calls Try.prog 42 #[.slice (some ⟨g, off, none⟩) n cap, .int .i64 lo, .int .i64 hi, .int .i64 F] w fun e w' => e = .returned (.tuple #[]) ∧ At32 w g off n (Go.Sort.siftDown ltU hi F lo d) w' := by
  have hgw := Lib.hid h.2.2.1
  go_enter Try.func42, Try.ntmps42
  go_wp2
  go_loopw [8] (fun vr wr => ∃ (root : Nat) (dk : Array UInt32), vr = .int .i64 root ∧ root ≤ hi ∧ Hid (At32 w g off n dk wr) ∧ Hid (Go.Sort.siftDown ltU hi F root dk = Go.Sort.siftDown ltU hi F lo d)) (fun vr _ => hi - (intOf vr).toNat)
  case atStart => exact ⟨lo, d, rfl, hlo, h, Lib.hid rfl⟩
  case round =>
    obtain ⟨root, dk, rfl, hr, hat, hS⟩ := hrel
    by_cases h0 : hi ≤ 2 * root + 1
    · have h0z : (hi : Int) ≤ 2 * (root : Int) + 1 := by omega
      go_wp2
      go_end0
      refine ⟨rfl, ?_⟩
      rw [← hS.out, Go.Sort.sd_end ltU dk h0]
      exact hat.out
    · have h0z : ¬ ((hi : Int) ≤ 2 * (root : Int) + 1) := by omega
      obtain ⟨G, hG, hcw, hfw⟩ := hat.out.cells
      have HG := Lib.hid hG
      clear hG
      have HSD : Hid (∀ c : Nat, ((c = 2 * root + 2 ∧ 2 * root + 2 < hi ∧ ltU dk[F + (2 * root + 1)]! dk[F + (2 * root + 2)]! = true) ∨ (c = 2 * root + 1 ∧ (2 * root + 2 < hi → ltU dk[F + (2 * root + 1)]! dk[F + (2 * root + 2)]! = false))) →
          (ltU dk[F + root]! dk[F + c]! = false → dk = Go.Sort.siftDown ltU hi F lo d) ∧ (ltU dk[F + root]! dk[F + c]! = true → Go.Sort.siftDown ltU hi F c (Go.Sort.swp dk (F + root) (F + c)) = Go.Sort.siftDown ltU hi F lo d)) := by
        rintro c (⟨rfl, h1, h2⟩ | ⟨rfl, h1⟩)
        · exact ⟨fun h3 => (Go.Sort.sd_right_stop ltU dk h1 h2 h3).symm.trans hS.out, fun h3 => (Go.Sort.sd_right_go ltU dk h1 h2 h3).symm.trans hS.out⟩
        · exact ⟨fun h3 => (Go.Sort.sd_left_stop ltU dk (by omega) h1 h3).symm.trans hS.out, fun h3 => (Go.Sort.sd_left_go ltU dk (by omega) h1 h3).symm.trans hS.out⟩
      clear hS
      go_upto_if 36 with fail
      go_cut [36] from 11 to 75 (fun s36 wc => (∃ b, s36 = .bool b ∧ Hid (b = true ↔ (2 * root + 2 < hi ∧ ltU dk[F + (2 * root + 1)]! dk[F + (2 * root + 2)]! = true))) ∧ Hid (At32 w g off n dk wc))
      case first =>
        by_cases h1 : 2 * root + 2 < hi
        · have h1z : 2 * (root : Int) + 1 + 1 < (hi : Int) := by omega
          go_quiet (first | (go_at_call 37; refine Calls.quiet_of_same (lessU _ _ _)))
          go_wp2_with fail
          go_meet
          case rel => exact ⟨⟨_, rfl, Lib.hid ⟨fun h => ⟨h1, by rw [ltU_dec (HG.out _) (HG.out _)]; exact h⟩, fun h => by have := h.2; rw [ltU_dec (HG.out _) (HG.out _)] at this; exact this⟩⟩, Lib.hid (hat.out.drewN nq)⟩
        · have h1z : decide (2 * (root : Int) + 1 + 1 < (hi : Int)) = false := decide_eq_false (by omega)
          go_quiet (first | (go_at_call 37; refine Calls.quiet_of_same (lessU _ _ _)))
          go_wp2_with fail
          go_meet
          case rel => exact ⟨⟨_, rfl, Lib.hid ⟨fun h => (by cases h), fun h => absurd h.1 h1⟩⟩, Lib.hid (hat.out.drewN nq)⟩
      case rest =>
        obtain ⟨⟨b, rfl, hb⟩, hat2⟩ := hcut
        clear hcw hfw hat
        go_upto_if 36 with fail
        go_cut [9] from 11 to 75 (fun s9 wc => (∃ c : Nat, s9 = .int .i64 c ∧ c < hi ∧ 2 * root < c ∧ Hid ((c = 2 * root + 2 ∧ 2 * root + 2 < hi ∧ ltU dk[F + (2 * root + 1)]! dk[F + (2 * root + 2)]! = true) ∨ (c = 2 * root + 1 ∧ (2 * root + 2 < hi → ltU dk[F + (2 * root + 1)]! dk[F + (2 * root + 2)]! = false)))) ∧ Hid (At32 w g off n dk wc))
        case first =>
          cases b
          · go_wp2_with fail
            go_meet
            case rel => exact ⟨⟨2 * root + 1, by go_num, by omega, by omega, Lib.hid (.inr ⟨rfl, fun h1 => by
              cases e : ltU dk[F + (2 * root + 1)]! dk[F + (2 * root + 2)]! with
              | false => rfl
              | true => exact absurd (hb.out.2 ⟨h1, e⟩) (by simp)⟩)⟩, hat2⟩
          · have h1 := hb.out.1 rfl
            have h1z : 2 * root + 2 < hi := h1.1
            have H1 := Lib.hid h1
            clear h1 hb
            go_wp2_with fail
            go_meet
            case rel => exact ⟨⟨2 * root + 2, by go_num, by omega, by omega, Lib.hid (.inl ⟨rfl, h1z, H1.out.2⟩)⟩, hat2⟩
        case rest =>
          obtain ⟨⟨c, rfl, hc1, hc2, hch⟩, hat3⟩ := hcut
          have HC := Lib.hid (HSD.out c hch.out)
          obtain ⟨hcw, hfw⟩ := hat3.out.cw HG.out
          clear hch HSD hb hat2
          go_wp2_with fail
          go_quiet (first | (go_at_call 37; refine Calls.quiet_of_same (lessU _ _ _)))
          have hat4 := Lib.hid (hat3.out.drewN nq)
          clear hcw hfw hat3
          generalize World.drewN _ _ = wz at *
          cases hl : ltN (G (F + root)) (G (F + c))
          · have hl' : ltU dk[F + root]! dk[F + c]! = false := by rw [ltU_dec (HG.out _) (HG.out _)]; exact hl
            have HE := Lib.hid (HC.out.1 hl')
            clear HC hl'
            go_wp2_with fail
            (try simp only [Exit.inBlock, Exit.then])
            refine bodyPost_ret (results_none rfl _ _ _) rfl ?_
            exact ⟨rfl, by rw [← HE.out]; exact hat4.out⟩
          · have hl' : ltU dk[F + root]! dk[F + c]! = true := by rw [ltU_dec (HG.out _) (HG.out _)]; exact hl
            have HE := Lib.hid (HC.out.2 hl')
            clear HC hl'
            obtain ⟨hcw, hfw⟩ := hat4.out.cw HG.out
            go_wp2_with fail
            go_region
            all_goals go_wp2
            go_roundw
            case rel => exact ⟨c, Go.Sort.swp dk (F + root) (F + c), rfl, by omega, Lib.hid (hat4.out.swap (by omega) (by omega) hgw.out (HG.out _) (HG.out _)).drew, HE⟩
            case measure => simp [intOf]; omega
theorem half_go (m : Nat) : ((m : Int) - 1).tdiv 2 = (((m - 1) / 2 : Nat) : Int) := by
  rcases m with _ | m
  · rfl
  · have e : ((m + 1 : Nat) : Int) - 1 = (m : Int) := by omega
    rw [e, Int.tdiv_eq_ediv_of_nonneg (by omega)]
    simp
set_option maxHeartbeats 8000000 in
theorem heapU (g off cap a b n : Nat) (d : Array UInt32) (w : World) (h : At32 w g off n d w) (hab : a ≤ b) (hb : b ≤ n) (hn : n < 4611686018427387904) :
    Calls Try.prog 32 #[.slice (some ⟨g, off, none⟩) n cap, .int .i64 a, .int .i64 b] w fun e w' => e = .returned (.tuple #[]) ∧ At32 w g off n (Go.Sort.heapSort ltU d a b) w' := by
  have hgw := Lib.hid h.2.2.1
  have HS := Lib.hid fun (lo hi : Nat) (dk : Array UInt32) (wx : World) (hx : At32 w g off n dk wx) (h1 : lo ≤ hi) (h2 : a + hi ≤ n) => (siftU g off cap lo hi a n dk wx hx.here h1 h2 hn).mono fun e w' (h : _ ∧ _) => (⟨h.1, hx.trans hgw.out h.2⟩ : e = .returned (.tuple #[]) ∧ At32 w g off n (Go.Sort.siftDown ltU hi a lo dk) w')
  obtain ⟨m, rfl⟩ : ∃ m, b = a + m := ⟨b - a, by omega⟩
  have HE : Hid (Go.Sort.heapSort ltU d a (a + m) = Go.Sort.heapPop ltU a m (Go.Sort.heapBuild ltU m a ((m - 1) / 2 + 1) d)) := by
    show _ = _
    unfold Go.Sort.heapSort
    rw [Nat.add_sub_cancel_left]
  rw [HE.out]
  clear HE
  have e2 : ((a : Int) + (m : Int) - (a : Int)) = (m : Int) := by omega
  have eC : (((a + m : Nat) : Int)) = (a : Int) + (m : Int) := by omega
  rw [eC]
  clear eC
  go_enter Try.func32, Try.ntmps32
  go_wp2
  go_loopw [9] (fun vi wr => ∃ (k : Nat) (dk : Array UInt32), vi = .int .i64 ((k : Int) - 1) ∧ k ≤ (m - 1) / 2 + 1 ∧ Hid (At32 w g off n dk wr) ∧ Hid (Go.Sort.heapBuild ltU m a k dk = Go.Sort.heapBuild ltU m a ((m - 1) / 2 + 1) d)) (fun vi _ => (intOf vi + 1).toNat)
  case atStart => exact ⟨(m - 1) / 2 + 1, d, by congr 1; rw [half_go]; try omega, by omega, h, Lib.hid rfl⟩
  case round =>
    obtain ⟨k, dk, rfl, hk, hat, hB⟩ := hrel
    rcases k with _ | k
    · have HB : Hid (dk = Go.Sort.heapBuild ltU m a ((m - 1) / 2 + 1) d) := hB.out
      clear hB
      have e0 : ((0 : Nat) : Int) - 1 = -1 := rfl
      rw [e0]
      go_wp2
      go_loopw [10] (fun vi wr => ∃ (k : Nat) (dj : Array UInt32), vi = .int .i64 ((k : Int) - 1) ∧ k ≤ m ∧ Hid (At32 w g off n dj wr) ∧ Hid (Go.Sort.heapPop ltU a k dj = Go.Sort.heapPop ltU a m dk)) (fun vi _ => (intOf vi + 1).toNat)
      case atStart => exact ⟨m, dk, by congr 1, by omega, hat, Lib.hid rfl⟩
      case round =>
        obtain ⟨k, dj, rfl, hk, hatj, hP⟩ := hrel
        rcases k with _ | k
        · go_wp2
          go_end0
          refine ⟨rfl, ?_⟩
          rw [← HB.out, ← hP.out]
          exact hatj.out
        · have e1 : ((k + 1 : Nat) : Int) - 1 = (k : Int) := by push_cast; omega
          rw [e1]
          obtain ⟨G, hG, hcw, hfw⟩ := hatj.out.cells
          have HG := Lib.hid hG
          have HP := Lib.hid hP.out
          clear hG hP
          rcases k with _ | k
          · have hA2 := Lib.hid (hatj.out.swap (i := a) (j := a) (by omega) (by omega) hgw.out (HG.out _) (HG.out _)).drew
            have HK := Lib.hid (HS.out 0 0 _ _ hA2.out (by omega) (by omega))
            go_wp2_with fail
            go_region
            all_goals go_wp2_with fail
            refine HK.out.mono ?_
            rintro e wz ⟨rfl, hz⟩
            have hA3 := Lib.hid hz
            clear hz
            go_wp2
            go_roundw
            case rel => exact ⟨0, _, rfl, by omega, hA3, HP⟩
            case measure => simp [intOf]
          · have hA2 := Lib.hid (hatj.out.swap (i := a) (j := a + (k + 1)) (by omega) (by omega) hgw.out (HG.out _) (HG.out _)).drew
            have HK := Lib.hid (HS.out 0 (k + 1) _ _ hA2.out (by omega) (by omega))
            go_wp2_with fail
            go_region
            all_goals go_wp2_with fail
            refine HK.out.mono ?_
            rintro e wz ⟨rfl, hz⟩
            have hA3 := Lib.hid hz
            clear hz
            go_wp2
            go_roundw
            case rel => exact ⟨k + 1, _, by first | rfl | (congr 1; omega), by omega, hA3, HP⟩
            case measure => simp [intOf]; omega
    · have e1 : ((k + 1 : Nat) : Int) - 1 = (k : Int) := by push_cast; omega
      rw [e1]
      have HK := Lib.hid (HS.out k m dk wr hat.out (by omega) (by omega))
      go_wp2_with fail
      refine HK.out.mono ?_
      rintro e wz ⟨rfl, hz⟩
      have hA3 := Lib.hid hz
      clear hz
      go_wp2
      go_roundw
      case rel => exact ⟨k, _, by first | rfl | (congr 1; omega), by omega, hA3, Lib.hid hB.out⟩
      case measure => simp [intOf]
end Go.Proofs.Ytbdieifggciopaa
