/-
  the reference's Check.
-/
import Derived.Test.YtikgobndekgjcaaDoorChk2
namespace Go.Proofs.YtikgobndekgjcaaDoor
open Go.RowKit
set_option maxRecDepth 100000
set_option maxHeartbeats 400000

theorem sz_alloc (w : World) (o : Obj) : w.heap.size + 1 = (w.alloc o).heap.size := by simp
theorem le_alloc {a b : World} {B : Nat} (h : B ≤ a.heap.size) (g : a.grownBy b none) (o : Obj) : B ≤ (b.alloc o).heap.size := by have := g.size; simp; omega
theorem rowM_shift (b : List UInt8) (n : UInt32) (p : Nat) : rowM b n p = ((rowM b n 0).1, (rowM b n 0).2.map fun f => (f.1, p + f.2)) := by
  unfold rowM
  repeat' split
  all_goals simp
theorem rowM_e {b : List UInt8} {n : UInt32} {p : Nat} {x : Ed} {f : Nat × Nat} (h : rowM b n p = (x, some f)) : 1 ≤ f.1 ∧ f.1 ≤ 13 ∧ f.2 ≤ p + 16 + b.length := by
  unfold rowM at h
  repeat' split at h
  all_goals (simp at h; try (obtain ⟨_, rfl⟩ := h; first | (simp; done) | (simp; omega)))
theorem rowM_len {b : List UInt8} {n : UInt32} {p : Nat} {x : Ed} (h : rowM b n p = (x, none)) : b.length = 16 := by
  unfold rowM at h
  split at h
  · simp at h
  · split at h
    · simp at h
    · omega
theorem headM_e {b : List UInt8} {n m : Nat} {f : Nat × Nat} (h : headM b = (n, m, some f)) : 1 ≤ f.1 ∧ f.1 ≤ 13 := by
  unfold headM at h
  split at h
  · simp at h; obtain ⟨_, _, rfl⟩ := h; simp
  · repeat' split at h
    all_goals first | (simp at h; done) | (simp at h; obtain ⟨_, _, rfl⟩ := h; simp)

set_option maxHeartbeats 2000000 in
theorem rcheck_any (v : Value) (b : List UInt8) (w : World) (h : RdB w v b) (hl : b.length ≤ 1000000000) :
    Calls Tryd.prog 17 #[v] w fun e w' => ResC4 w.heap.size (checkM b) e w' ∧ w.grownBy w' none := by
  obtain ⟨A, c, rfl⟩ := h.form
  have hcap := h.cap
  have R0 := Lib.hid h
  have hhead := rhead_any _ b w h hl
  clear h
  rcases hh : headM b with ⟨n, m, f⟩
  unfold Res4 at hhead
  rw [hh] at hhead
  have Hhead := Lib.hid hhead
  clear hhead
  rcases f with _ | f
  · obtain ⟨hn, hm, hb12⟩ := head_bound hh
    obtain ⟨N, hN⟩ : ∃ N : UInt32, N.toNat = n := ⟨UInt32.ofNat n, u32_of (by omega)⟩
    subst hN
    have Hg : Hid (∀ l, rowsM b N m 12 [] = (l, none) → checkM b = (N.toNat, l, none)) := fun l h => check_good hh (by rw [UInt32.ofNat_toNat]; exact h)
    have Hb : Hid (∀ l f, rowsM b N m 12 [] = (l, some f) → checkM b = (0, [], some f)) := fun l f h => check_bad hh (by rw [UInt32.ofNat_toNat]; exact h)
    clear hh
    go_enter Tryd.func17, Tryd.ntmps17
    go_wp2_with (go_at_call 26; refine Hhead.out.mono ?_; rintro e w1 ⟨rfl, g1⟩; simp only [Option.getD])
    go_loopw [10, 11] (fun u i wr => ∃ (k : Nat) (acc : List Ed), k ≤ m ∧ i = .int .i64 k ∧ acc.length = k ∧ 12 + 16 * k ≤ b.length ∧ OwnE wr w.heap.size u acc ∧ w.grownBy wr none ∧ rowsM b N m 12 [] = rowsM b N (m - k) (12 + 16 * k) acc)
      (fun _ i _ => m - (intOf i).toNat)
    case atStart => exact ⟨0, [], by omega, rfl, rfl, by omega, OwnE.nil _ _, g1, rfl⟩
    case round =>
      obtain ⟨k, acc, hk, rfl, hacc, hpl, hown, hg, hrec⟩ := hrel
      have Hrec := Lib.hid hrec
      have hacc9 : acc.length ≤ 1000000000 := by omega
      have Hacc := Lib.hid hacc
      have hsz := hg.size
      clear hrec hacc
      by_cases hlt : k < m
      · have hp : 12 + 16 * k ≤ 300000000 := by omega
        by_cases h1 : 12 + 16 * k + 16 ≤ b.length
        · rcases hrow : rowM ((b.drop (12 + 16 * k)).take 16) N 0 with ⟨⟨xt, xh, xw, xm⟩, f⟩
          have Hrow2 := Lib.hid (rowM_shift ((b.drop (12 + 16 * k)).take 16) N (12 + 16 * k))
          rw [hrow] at Hrow2
          have Hrow := Lib.hid hrow
          rcases f with _ | ⟨f1, f2⟩
          · go_wp2_with (first | (go_at_call 28; refine (rrow_any _ ((b.drop (12 + 16 * k)).take 16) N _ (piece_any (R0.out.ext hg) (12 + 16 * k) (12 + 16 * k) (12 + 16 * k + 16) (by omega) (by omega) (by omega) (by omega)) (by simp; omega)).mono ?_; rintro e w2 ⟨he, g2⟩; rw [Hrow.out] at he; obtain rfl := he; simp only [Ed.v, Ed.cells, Flt.e, Flt.p, Option.getD, u32v, u64v]) | (at_builtin; refine wp_app1E ⟨xt, xh, xw, xm⟩ _ rfl rfl (.tmp 65) (.tmp 67) rfl rfl ((hown.ext g2).ext (gr_alloc _ _ _)) _ rfl (sz_alloc _ _) hacc9 (le_alloc hsz g2 _) ?_; intro v3 w3 h3 g3 a3))
            · go_roundw
              case rel => exact ⟨k + 1, acc ++ [⟨xt, xh, xw, xm⟩], by omega, by go_num, by simp [Hacc.out], by omega, h3, gr_trans (gr_none (gr_none hg g2) (gr_alloc _ _ _)) g3 (.inr fun j hj => Own.lt hown j hj), by
                rw [Hrec.out, show m - k = (m - (k + 1)) + 1 from by omega, rows_good Hrow2.out]; rfl⟩
              case measure => simp [intOf]; omega
          · have Hbb := Lib.hid (Hb.out [] _ (by rw [Hrec.out, show m - k = (m - (k + 1)) + 1 from by omega, rows_bad Hrow2.out]))
            obtain ⟨e1, e2, e3⟩ := rowM_e hrow
            have hne : ((f1 : Int) != 0) = true := by rw [bne_iff_ne]; simp at e1; omega
            have hf2 : f2 ≤ 32 := by simp at e3; omega
            clear hrow e3
            go_wp2_with (go_at_call 28; refine (rrow_any _ ((b.drop (12 + 16 * k)).take 16) N _ (piece_any (R0.out.ext hg) (12 + 16 * k) (12 + 16 * k) (12 + 16 * k + 16) (by omega) (by omega) (by omega) (by omega)) (by simp; omega)).mono ?_; rintro e w2 ⟨he, g2⟩; rw [Hrow.out] at he; obtain rfl := he; simp only [Ed.v, Ed.cells, Flt.e, Flt.p, Option.getD, u32v, u64v])
            (try simp only [Exit.inBlock, Exit.then])
            refine bodyPost_ret (results_four rfl _ _ _) rfl ?_
            exact ⟨⟨_, by rw [Hbb.out]; rfl, by rw [Hbb.out]; exact OwnE.nil _ _⟩, gr_none (gr_none hg g2) (gr_alloc _ _ _)⟩
        · rcases hrow : rowM ((b.drop (12 + 16 * k)).take 16) N 0 with ⟨⟨xt, xh, xw, xm⟩, f⟩
          have Hrow2 := Lib.hid (rowM_shift ((b.drop (12 + 16 * k)).take 16) N (12 + 16 * k))
          rw [hrow] at Hrow2
          have Hrow := Lib.hid hrow
          rcases f with _ | ⟨f1, f2⟩
          · exact absurd (rowM_len Hrow2.out) (by simp; omega)
          · have Hbb := Lib.hid (Hb.out [] _ (by rw [Hrec.out, show m - k = (m - (k + 1)) + 1 from by omega, rows_bad Hrow2.out]))
            obtain ⟨e1, e2, e3⟩ := rowM_e hrow
            have hne : ((f1 : Int) != 0) = true := by rw [bne_iff_ne]; simp at e1; omega
            have hf2 : f2 ≤ 32 := by simp at e3; omega
            clear hrow e3
            go_wp2_with (go_at_call 28; refine (rrow_any _ ((b.drop (12 + 16 * k)).take 16) N _ (piece_any (R0.out.ext hg) (12 + 16 * k) (12 + 16 * k) (b.length) (by omega) (by omega) (by omega) (by omega)) (by simp; omega)).mono ?_; rintro e w2 ⟨he, g2⟩; rw [Hrow.out] at he; obtain rfl := he; simp only [Ed.v, Ed.cells, Flt.e, Flt.p, Option.getD, u32v, u64v])
            (try simp only [Exit.inBlock, Exit.then])
            refine bodyPost_ret (results_four rfl _ _ _) rfl ?_
            exact ⟨⟨_, by rw [Hbb.out]; rfl, by rw [Hbb.out]; exact OwnE.nil _ _⟩, gr_none (gr_none hg g2) (gr_alloc _ _ _)⟩
      · obtain rfl : k = m := by omega
        have hr0 := Hrec.out
        rw [Nat.sub_self, rowsM] at hr0
        by_cases h1 : 12 + 16 * k < b.length
        · rw [if_pos h1] at hr0
          have Hbb := Lib.hid (Hb.out _ _ hr0)
          clear hr0
          go_wp2
          (try simp only [Exit.inBlock, Exit.then])
          refine bodyPost_ret (results_four rfl _ _ _) rfl ?_
          exact ⟨⟨_, by rw [Hbb.out]; rfl, by rw [Hbb.out]; exact OwnE.nil _ _⟩, hg⟩
        · rw [if_neg h1] at hr0
          have Hbb := Lib.hid (Hg.out _ hr0)
          clear hr0
          go_wp2
          (try simp only [Exit.inBlock, Exit.then])
          refine bodyPost_ret (results_four rfl _ _ _) rfl ?_
          exact ⟨⟨_, by rw [Hbb.out]; rfl, by rw [Hbb.out]; exact hown⟩, hg⟩
  · have Hbb := Lib.hid (check_head hh)
    obtain ⟨e1, e2⟩ := headM_e hh
    obtain ⟨f1, f2⟩ := f
    have hne : ((f1 : Int) != 0) = true := by rw [bne_iff_ne]; simp at e1; omega
    clear hh
    go_enter Tryd.func17, Tryd.ntmps17
    go_wp2_with (go_at_call 26; refine Hhead.out.mono ?_; rintro e w1 ⟨rfl, g1⟩; simp only [Option.getD])
    (try simp only [Exit.inBlock, Exit.then])
    refine bodyPost_ret (results_four rfl _ _ _) rfl ?_
    exact ⟨⟨_, by rw [Hbb.out]; rfl, by rw [Hbb.out]; exact OwnE.nil _ _⟩, g1⟩
end Go.Proofs.YtikgobndekgjcaaDoor
