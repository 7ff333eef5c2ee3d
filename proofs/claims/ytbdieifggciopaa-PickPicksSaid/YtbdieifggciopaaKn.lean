/-
  Pick: the document's own words: near, ahead.
-/
import Derived.Test.YtbdieifggciopaaKs
namespace Go.Proofs.Ytbdieifggciopaa
open Go.RowKit
set_option maxRecDepth 100000
set_option maxHeartbeats 400000

theorem near2_any (x : Cd) (u : UInt32) (w : World) (h : RdU w x.s x.d.near) (hn : x.d.near.length ≤ 1000000000) :
    Calls Try.prog 21 #[x.agg, .int .u32 u.toNat] w fun e w' => e = .returned (.bool (decide (u ∈ x.d.near))) ∧ w.grownBy w' none := by
  obtain ⟨⟨xa, xb, l⟩, xs⟩ := x
  show Calls _ _ #[.agg #[.int .u32 xa.toNat, .int .u64 xb.toNat, xs], .int .u32 u.toNat] _ fun e w' => e = .returned (.bool (decide (u ∈ l))) ∧ w.grownBy w' none
  replace h : RdU w xs l := h
  replace hn : l.length ≤ 1000000000 := hn
  obtain ⟨A, c, rfl⟩ := RdU.form h
  obtain ⟨g, off, hA, hcells⟩ := RdU.at_ h
  have HA := Lib.hid hA
  have HC := Lib.hid hcells
  have G0 : Hid (w.grownBy (w.alloc (.cells #[.int .u32 xa.toNat, .int .u64 xb.toNat, .slice A l.length c] 33)) none) := gr_alloc w _ none
  have HB : Hid (Blk (w.alloc (.cells #[.int .u32 xa.toNat, .int .u64 xb.toNat, .slice A l.length c] 33)) w.heap.size 33 #[.int .u32 xa.toNat, .int .u64 xb.toNat, .slice A l.length c]) := Blk.new _ _ _
  clear hA hcells h
  go_enter Try.func21, Try.ntmps21
  go_wp2
  go_loopw [5] (fun i wr => ∃ k : Nat, k ≤ l.length ∧ i = .int .i64 k ∧ Hid (u ∉ l.take k) ∧ (w.alloc (.cells #[.int .u32 xa.toNat, .int .u64 xb.toNat, .slice A l.length c] 33)).grownBy wr none) (fun i _ => l.length - (intOf i).toNat)
  case atStart => exact ⟨0, by omega, rfl, Lib.hid (by simp), gr_refl _ _⟩
  case round =>
    obtain ⟨k, hk, rfl, hall, hg⟩ := hrel
    have kb : wr.cell? ⟨w.heap.size, 2, none⟩ = some (.slice A l.length c) := (HB.out.ext hg).cell 2
    have HG := Lib.hid (gr_none G0.out hg)
    by_cases hlt : k < l.length
    · have := HA.out (by omega)
      subst this
      have c0 := HG.out.cell (HC.out k hlt) (by simp)
      by_cases e1 : l[k].toNat = u.toNat
      · have b1 : ((l[k].toNat : Int) == (u.toNat : Int)) = true := by simp; omega
        have HM : Hid (decide (u ∈ l) = true) := by show _ = _; rw [decide_eq_true_eq, ← UInt32.toNat_inj.1 e1]; exact List.getElem_mem hlt
        generalize l[k] = y at *
        clear e1 hall
        go_wp2
        go_ret
        exact ⟨by rw [HM.out]; rfl, HG.out⟩
      · have b1 : ((l[k].toNat : Int) == (u.toNat : Int)) = false := by simp; omega
        have HN : Hid (u ∉ l.take (k + 1)) := by
          show ¬ _
          rw [List.take_succ_eq_append_getElem hlt, List.mem_append, List.mem_singleton]
          rintro (h | h)
          · exact hall.out h
          · exact e1 (by rw [h])
        generalize l[k] = y at *
        clear e1 hall
        go_wp2
        go_roundw
        case rel => exact ⟨k + 1, by omega, by go_num, HN, hg⟩
        case measure => simp [intOf]; omega
    · obtain rfl : k = l.length := by omega
      have HN : Hid (decide (u ∈ l) = false) := by
        show _ = _
        have := hall.out; rw [List.take_length] at this
        rw [decide_eq_false_iff_not]; exact this
      clear hall
      go_wp2
      go_ret
      exact ⟨by rw [HN.out]; rfl, HG.out⟩
theorem ahead2_any (x y : Cd) (w : World) : Calls Try.prog 22 #[x.agg, y.agg] w fun e w' => e = .returned (.bool (decide (aheadD x.d y.d))) ∧ w.grownBy w' none := by
  obtain ⟨⟨xa, xb, xl⟩, xs⟩ := x
  obtain ⟨⟨ya, yb, yl⟩, ys⟩ := y
  show Calls _ _ #[.agg #[.int .u32 xa.toNat, .int .u64 xb.toNat, xs], .agg #[.int .u32 ya.toNat, .int .u64 yb.toNat, ys]] _ fun e w' => e = .returned (.bool (decide (xb.toNat < yb.toNat ∨ xb.toNat = yb.toNat ∧ xa.toNat < ya.toNat))) ∧ w.grownBy w' none
  have hA : xa.toNat < 2 ^ 32 := xa.toNat_lt
  have hB : ya.toNat < 2 ^ 32 := ya.toNat_lt
  generalize xa.toNat = p1 at *
  generalize xb.toNat = p2 at *
  generalize ya.toNat = q1 at *
  generalize yb.toNat = q2 at *
  have fin : ∀ (b : Bool) (w' : World), (b = true ↔ (p2 < q2 ∨ p2 = q2 ∧ p1 < q1)) → w.grownBy w' none → (Ending.returned (.bool b) = .returned (.bool (decide (p2 < q2 ∨ p2 = q2 ∧ p1 < q1))) ∧ w.grownBy w' none) := fun b w' hb hg => ⟨by
    rw [show b = decide (p2 < q2 ∨ p2 = q2 ∧ p1 < q1) by
      by_cases h : p2 < q2 ∨ p2 = q2 ∧ p1 < q1
      · rw [hb.2 h, decide_eq_true h]
      · rw [decide_eq_false h]
        cases b
        · rfl
        · exact absurd (hb.1 rfl) h], hg⟩
  have HF := Lib.hid fin
  clear fin hA hB
  by_cases h1 : p2 < q2
  · go_enter Try.func22, Try.ntmps22
    go_wp2_with fail
    all_goals
      go_ret
      first | exact ⟨rfl, gr_none (gr_alloc _ _ none) (gr_alloc _ _ none)⟩ | exact HF.out _ _ (by first | (simp; done) | (simp; omega)) (gr_none (gr_alloc _ _ none) (gr_alloc _ _ none))
  · by_cases h2 : p2 = q2
    · subst h2
      by_cases h3 : p1 < q1
      · go_enter Try.func22, Try.ntmps22
        go_wp2_with fail
        all_goals
          go_ret
          first | exact ⟨rfl, gr_none (gr_alloc _ _ none) (gr_alloc _ _ none)⟩ | exact HF.out _ _ (by first | (simp; done) | (simp; omega)) (gr_none (gr_alloc _ _ none) (gr_alloc _ _ none))
      · go_enter Try.func22, Try.ntmps22
        go_wp2_with fail
        all_goals
          go_ret
          first | exact ⟨rfl, gr_none (gr_alloc _ _ none) (gr_alloc _ _ none)⟩ | exact HF.out _ _ (by first | (simp; done) | (simp; omega)) (gr_none (gr_alloc _ _ none) (gr_alloc _ _ none))
    · have b1 : ((p2 : Int) == (q2 : Int)) = false := by simp; omega
      go_enter Try.func22, Try.ntmps22
      go_wp2_with fail
      all_goals
        go_ret
        first | exact ⟨rfl, gr_none (gr_alloc _ _ none) (gr_alloc _ _ none)⟩ | exact HF.out _ _ (by first | (simp; done) | (simp; omega)) (gr_none (gr_alloc _ _ none) (gr_alloc _ _ none))
end Go.Proofs.Ytbdieifggciopaa
