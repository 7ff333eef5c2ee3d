/-
  the reference's Write.
-/
import Derived.Test.YtikgobndekgjcaaDoorWr
namespace Go.Proofs.YtikgobndekgjcaaDoor
open Go.RowKit
set_option maxRecDepth 100000
set_option maxHeartbeats 400000

set_option maxHeartbeats 2000000 in
theorem rwrite_any (n : UInt32) (v : Value) (l : List Ed) (w : World) (h : RdE w v l) :
    Calls Tryd.prog 22 #[.int .u32 n.toNat, v] w fun e w' => ResW w.heap.size (writeM n l) e w' ∧ w.grownBy w' none := by
  obtain ⟨A, c, rfl⟩ := h.form
  obtain ⟨g, off, hA, hcells⟩ := h.at_
  have HA := Lib.hid hA
  have HC := Lib.hid hcells
  clear hA hcells
  have R0 := Lib.hid h
  have hn := n.toNat_lt
  clear h
  by_cases hA : 2147483647 < n.toNat
  · have Hm := Lib.hid (writeM_bad (writeOk_n (l := l) hA))
    go_enter Tryd.func22, Tryd.ntmps22
    go_wp2
    go_ret2
    exact ⟨⟨_, by rw [Hm.out]; rfl, by rw [Hm.out]; exact OwnB.nil _ _⟩, gr_refl _ _⟩
  by_cases h1 : 16777216 < l.length
  · have hm : writeOk n l = false := by unfold writeOk; simp [show ¬ l.length ≤ 16777216 from by omega]
    have Hm := Lib.hid (writeM_bad hm)
    clear hm
    go_enter Tryd.func22, Tryd.ntmps22
    go_wp2
    go_ret2
    exact ⟨⟨_, by rw [Hm.out]; rfl, by rw [Hm.out]; exact OwnB.nil _ _⟩, gr_refl _ _⟩
  by_cases hB : n.toNat = 0 ∧ 0 < l.length
  · have Hm := Lib.hid (writeM_bad (writeOk_z hB))
    have hz : ((n.toNat : Int) == 0) = true := by rw [beq_iff_eq]; omega
    have hz2 := hB.2
    clear hB
    go_enter Tryd.func22, Tryd.ntmps22
    go_wp2
    go_ret2
    exact ⟨⟨_, by rw [Hm.out]; rfl, by rw [Hm.out]; exact OwnB.nil _ _⟩, gr_refl _ _⟩
  have HO := Lib.hid (writeOk_ok (n := n) (l := l) (by omega) (by omega) hB)
  have HM := Lib.hid (@writeM_ok n l)
  have HR := Lib.hid (fun h => writeM_bad (writeOk_row (n := n) (l := l) h))
  have kc := fun (w : World) (C : Array Value) (n c : Nat) => Lib.run_convert_bytes_const (P := Tryd.prog) w 22 5 C n c Tryd.underlying22 Tryd.underlying5
  have key : ∀ b : Bool, ((n.toNat : Int) == 0) = b → (b = true → l.length = 0) → Calls Tryd.prog 22 #[.int .u32 n.toNat, .slice A l.length c] w fun e w' => ResW w.heap.size (writeM n l) e w' ∧ w.grownBy w' none := by
    intro b hb hbl
    clear hB
    have hl0 : b = true → ¬ 0 < l.length := fun e => by have := hbl e; omega
    clear hbl
    rcases b with _ | _
    all_goals
      (try have hl1 := hl0 rfl)
      clear hl0
      go_enter Tryd.func22, Tryd.ntmps22
      go_wp2_with fail
      refine (rput_i 4 _ 4 n.toNat rfl ?_ _ magic _ (by omega) (by omega) (by simp [magic]) (rd_magic w)).mono ?_
      · rfl
      rintro e w1 ⟨v1, rfl, h1, g1⟩
      have G1 := gr_none (gr_alloc w (.cells #[.int .u8 77, .int .u8 80, .int .u8 71, .int .u8 49] 5 (4, 5)) none) g1
      go_wp2_with fail
      refine (rput_i 4 _ 4 l.length rfl ?_ v1 _ _ (by omega) (by omega) (by simp [magic, length_le]) h1.rd).mono ?_
      · rfl
      rintro e w2 ⟨v2, rfl, h2, g2⟩
      have G2 := gr_none G1 g2
      have Hb : OwnB w2 w.heap.size v2 (inputB n l) := OwnB.mono h2 G1.size
      clear h1 g1 h2 g2 G1
      have G3 := Lib.hid G2
      have Hb2 := Lib.hid Hb
      clear Hb G2
      go_wp2_with fail
      go_loopw [6, 7] (fun u i wr => ∃ k : Nat, k ≤ l.length ∧ i = .int .i64 k ∧ (l.take k).all (rowOk n) = true ∧ OwnB wr w.heap.size u (inputB n l ++ (l.take k).flatMap Ed.row) ∧ w.grownBy wr none)
        (fun _ i _ => l.length - (intOf i).toNat)
      case atStart => exact ⟨0, by omega, rfl, by simp, by simpa using Hb2.out, G3.out⟩
      case round =>
        obtain ⟨k, hk, rfl, hall, hown, hg⟩ := hrel
        have Hall := Lib.hid hall
        have hsz := hg.size
        clear hall
        by_cases hlt : k < l.length
        · try (exfalso; omega)
          all_goals
            have := HA.out (by omega)
            subst this
            rcases hx : l[k] with ⟨xt, xh, xw, xm⟩
            obtain ⟨c0, c1, c2, c3⟩ := at4 HC.out hg hlt hx
            have Hx := Lib.hid hx
            have hed := redge_any ⟨xt, xh, xw, xm⟩
            simp only [Ed.v, Ed.cells, u32v, u64v] at hed
            have Hed := Lib.hid hed
            clear hx hed
            go_wp2_with fail
            refine (Hed.out _).mono ?_
            rintro e w4 ⟨v4, rfl, h4, g4⟩
            obtain ⟨A4, q4, rfl⟩ := h4.rd.form
            have hq4 : 20 ≤ q4 := by have := h4.rd.cap; rw [length_bytes] at this; exact this
            have hq5 : 20 ≤ (Ed.bytes ⟨xt, xh, xw, xm⟩).length := by rw [length_bytes]; omega
            have R4 := Lib.hid (row_cut h4)
            have G4 := Lib.hid (gr_none hg g4)
            have Ho4 := Lib.hid (hown.ext g4)
            clear h4 g4 hg hown
            rcases hrow : rowM (Ed.row ⟨xt, xh, xw, xm⟩) n 0 with ⟨⟨yt, yh, yw, ym⟩, f⟩
            have hrw := rrow_any _ _ n w4 R4.out (by rw [length_row]; omega)
            unfold ResR3 at hrw
            rw [hrow] at hrw
            simp only [Ed.v, Ed.cells, u32v, u64v] at hrw
            have Hrw := Lib.hid hrw
            have Hrow := Lib.hid hrow
            have hfe := @rowM_e (Ed.row ⟨xt, xh, xw, xm⟩) n 0
            rw [hrow] at hfe
            have Hfe := Lib.hid (fun x f h => @hfe x f h)
            clear hrw hrow hfe
            rcases f with _ | ⟨f1, f2⟩
            · have hlen : (inputB n l ++ (l.take k).flatMap Ed.row).length + (Ed.row ⟨xt, xh, xw, xm⟩).length ≤ 70000000000000 := by
                rw [length_row, List.length_append, length_inputB]
                have : ((l.take k).flatMap Ed.row).length = (l.take k).length * 16 := flatMap_len _ (fun e => length_row e) _
                rw [this]; simp; omega
              go_wp2_with fail
              refine Hrw.out.mono ?_
              rintro e w5 ⟨rfl, g5⟩
              simp only [Flt.e, Flt.p, Option.getD]
              have R5 := Lib.hid ((R4.out.ext g5).ext (gr_alloc _ (.cells #[.int .u32 yt.toNat, .int .u32 yh.toNat, .int .u64 yw.toNat, .int .u32 ym.toNat] 34) _))
              have G5 := Lib.hid (gr_none (gr_none G4.out g5) (gr_alloc _ (.cells #[.int .u32 yt.toNat, .int .u32 yh.toNat, .int .u64 yw.toNat, .int .u32 ym.toNat] 34) _))
              have Ho5 := Lib.hid ((Ho4.out.ext g5).ext (gr_alloc _ (.cells #[.int .u32 yt.toNat, .int .u32 yh.toNat, .int .u64 yw.toNat, .int .u32 ym.toNat] 34) _))
              have hz5 := G5.out.size
              clear g5
              go_wp2_with (at_builtin; refine wp_appB rfl (.tmp 60) (.tmp 61) rfl rfl Ho5.out rfl R5.out hlen hz5 ?_; intro v6 w6 h6 g6 a6)
              go_roundw
              case rel => exact ⟨k + 1, by omega, by go_num, all_take_succ Hall.out hlt (by rw [Hx.out]; unfold rowOk; rw [Hrow.out]; rfl), by
                rw [flatMap_take_succ hlt, Hx.out, ← List.append_assoc]; exact h6, gr_trans G5.out g6 (.inr fun j hj => Own.lt Ho5.out j hj)⟩
              case measure => simp [intOf]; omega
            · have hne : ((f1 : Int) != 0) = true := by have := (Hfe.out _ _ rfl).1; rw [bne_iff_ne]; simp at this; omega
              have Hbad := Lib.hid (HR.out (all_false hlt (by rw [Hx.out]; unfold rowOk; rw [Hrow.out]; rfl)))
              go_wp2_with fail
              refine Hrw.out.mono ?_
              rintro e w5 ⟨rfl, g5⟩
              simp only [Flt.e, Flt.p, Option.getD]
              go_wp2
              go_ret2
              exact ⟨⟨_, by rw [Hbad.out]; rfl, by rw [Hbad.out]; exact OwnB.nil _ _⟩, gr_none (gr_none G4.out g5) (gr_alloc _ _ _)⟩
        · obtain rfl : k = l.length := by omega
          have hall := Hall.out
          rw [List.take_length] at hall hown
          have Hok := Lib.hid (HM.out (HO.out hall))
          have Hown := Lib.hid hown
          clear hall hown
          go_wp2
          go_ret2
          exact ⟨⟨_, by rw [Hok.out]; rfl, by rw [Hok.out]; exact Hown.out⟩, hg⟩
  cases hz : ((n.toNat : Int) == 0) with
  | true => exact key true hz (fun _ => by rw [beq_iff_eq] at hz; omega)
  | false => exact key false hz (fun h => by cases h)
end Go.Proofs.YtikgobndekgjcaaDoor
