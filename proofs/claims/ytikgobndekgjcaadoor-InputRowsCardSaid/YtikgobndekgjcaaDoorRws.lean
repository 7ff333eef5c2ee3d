/-
  InputRows, the law's own walk.
-/
import Derived.Test.YtikgobndekgjcaaDoorBack
namespace Go.Proofs.YtikgobndekgjcaaDoor
open Go.RowKit
set_option maxRecDepth 100000
set_option maxHeartbeats 400000

theorem piece_written (n : UInt32) (l : List Ed) {k : Nat} (hk : k < l.length) : ((inputB n l ++ l.flatMap Ed.row).drop (12 + 16 * k)).take 16 = l[k].row := by
  have h1 : l.flatMap Ed.row = (l.take k).flatMap Ed.row ++ ((l[k] :: l.drop (k + 1)).flatMap Ed.row ++ []) := by
    rw [List.append_nil, ← List.flatMap_append, ← List.drop_eq_getElem_cons hk, List.take_append_drop]
  have h2 : (inputB n l ++ (l.take k).flatMap Ed.row).length = 12 + 16 * k := by
    rw [List.length_append, length_inputB, flatMap_len Ed.row length_row, List.length_take_of_le (by omega)]; omega
  rw [h1, ← List.append_assoc, ← h2]
  exact piece_row _ _ _ _

theorem OwnB.cap {w : World} {B n c : Nat} {A : Option Addr} {b : List UInt8} (h : OwnB w B (.slice A n c) b) : n ≤ c ∧ n = b.length := by
  obtain ⟨_, _, _, _, _, e, hn, _⟩ := h; cases e; exact ⟨hn, rfl⟩

set_option maxHeartbeats 2000000 in
theorem rws_any (n : UInt32) (vl : Value) (l : List Ed) (w : World) (hg : Glob w) (h : RdE w vl l) :
    Calls Tryd.prog 10 #[.int .u32 n.toNat, vl] w fun e w' => e = .returned (.bool true) ∧ w.grownBy w' none := by
  obtain ⟨Al, cl, rfl⟩ := h.form
  have Hg := Lib.hid hg
  have HL := Lib.hid h
  obtain ⟨g, off, hA, hcells⟩ := h.at_
  have HA := Lib.hid hA
  have HC := Lib.hid hcells
  clear hg h hA hcells
  by_cases hl : 1024 < l.length
  · go_enter Tryd.func10, Tryd.ntmps10
    go_wp2_with (go_at_call 14; refine (works_any _ Hg.out).mono ?_; rintro e w1 ⟨rfl, g1⟩)
    go_ret
    exact ⟨rfl, g1⟩
  have Hw := Lib.hid (write_any n _ l w HL.out (by omega))
  rcases hok : writeOk n l with _ | _
  · have Hok := Lib.hid hok
    clear hok
    go_enter Tryd.func10, Tryd.ntmps10
    go_wp2_with (first
      | (go_at_call 21; refine Hw.out.mono ?_; rintro e w1 ⟨r1, g1⟩; obtain ⟨A1, c1, rfl⟩ := resW_bad Hok.out r1)
      | (go_at_call 14; refine (works_any _ (Hg.out.ext g1)).mono ?_; rintro e w2 ⟨rfl, g2⟩))
    go_ret
    exact ⟨rfl, gr_none g1 g2⟩
  · have Hok := Lib.hid hok
    clear hok
    go_enter Tryd.func10, Tryd.ntmps10
    go_wp2_with fail
    refine Hw.out.mono ?_
    rintro e w1 ⟨r1, g1⟩
    obtain ⟨A1, c1, rfl, o1⟩ := resW_ok Hok.out r1
    have hcap := o1.cap.1
    have G1 := Lib.hid g1
    have R1 := Lib.hid o1.rd
    have hb : (inputB n l ++ l.flatMap Ed.row).length = 12 + 16 * l.length := length_written n l
    have hhead := Head_any _ _ w1 (Hg.out.ext g1) o1.rd (by rw [hb]; omega)
    unfold Res4 at hhead
    obtain ⟨k1, k2, k3, k4⟩ := writeOk_iff.1 Hok.out
    rw [head_inputB n l _ k1 k2 k3] at hhead
    simp only [Option.getD] at hhead
    have Hhead := Lib.hid hhead
    have hrow : ∀ wx, w1.grownBy wx none → ∀ (k : Nat) (hk : k < l.length) (A' : Option Addr) (n' c' : Nat), RdB wx (.slice A' n' c') (((inputB n l ++ l.flatMap Ed.row).drop (12 + 16 * k)).take 16) →
        Calls Tryd.prog 27 #[.slice A' n' c', .int .u32 n.toNat] wx fun e w' => e = .returned (.tuple #[l[k].fix.v, .int .i64 0, .int .i64 0]) ∧ wx.grownBy w' none := fun wx hx k hk A' n' c' hr => by
      rw [piece_written n l hk] at hr
      have := Row_any _ _ n wx (Hg.out.ext (gr_none g1 hx)) hr (by rw [length_row]; omega)
      unfold ResR3 at this
      rw [rowM_ok (List.all_eq_true.1 k4 _ (List.getElem_mem hk))] at this
      exact this
    have Hrow := Lib.hid hrow
    have Hb := Lib.hid hb
    clear hrow hhead o1 r1 g1 hb k3 k4
    go_wp2_with (go_at_call 25; refine Hhead.out.mono ?_; rintro e w2 ⟨rfl, g2⟩)
    go_loopw [11] (fun i wr => ∃ k : Nat, k ≤ l.length ∧ i = .int .i64 k ∧ w1.grownBy wr none) (fun i _ => l.length - (intOf i).toNat)
    case atStart => exact ⟨0, by omega, rfl, g2⟩
    case round =>
      obtain ⟨k, hk, rfl, hgr⟩ := hrel
      have Hgr := Lib.hid hgr
      clear hgr
      by_cases hlt : k < l.length
      · have := HA.out (by omega)
        subst this
        have hro := fun A' n' c' h => Hrow.out _ Hgr.out k hlt A' n' c' h
        rcases hx : l[k] with ⟨xt, xh, xw, xm⟩
        rw [hx] at hro
        simp only [Ed.fix, Ed.v, Ed.cells, u32v, u64v] at hro
        have hne := run_neqE ⟨xt, xh, xw, 4294967295⟩ ⟨xt, xh, xw, 4294967295⟩
        rw [(edEq_iff _ _).2 rfl] at hne
        simp only [Ed.v, Ed.cells, u32v, u64v, Bool.not_true] at hne
        have hmid : (((4294967295 : UInt32).toNat : Nat) : Int) = 4294967295 := rfl
        rw [hmid] at hne
        simp only [hmid] at hro
        have Hro := Lib.hid hro
        have hcs := fun wx hw => at4 (wx := wx) HC.out hw hlt hx
        have Hcs := Lib.hid hcs
        clear hro hcs hx hmid
        go_wp2_with fail
        refine (Hro.out _ _ _ (piece_any (A := A1) (c := c1) (by rw [Hb.out]; exact R1.out.ext Hgr.out) (12 + 16 * k) _ (28 + 16 * k) ?_ ?_ ?_ ?_)).mono ?_
        · rw [Hb.out]; omega
        · rw [Hb.out]; omega
        · omega
        · omega
        rintro e w3 ⟨rfl, g3⟩
        have G3 := gr_none (gr_none Hgr.out g3) (gr_alloc w3 (.cells #[.int .u32 xt.toNat, .int .u32 xh.toNat, .int .u64 xw.toNat, .int .u32 4294967295] 34) none)
        obtain ⟨c0, c1', c2, c3⟩ := Hcs.out _ (gr_none G1.out G3)
        have k3 := (Blk.new w3 34 #[.int .u32 xt.toNat, .int .u32 xh.toNat, .int .u64 xw.toNat, .int .u32 4294967295]).cell
        have H3 := Lib.hid G3
        clear G3 g3
        go_wp2_with fail
        go_quiet (fail)
        go_wp2
        go_roundw
        case rel => exact ⟨k + 1, by omega, by go_num, gr_none H3.out (gr_drewN _ _ _)⟩
        case measure => simp [intOf]; omega
      · go_wp2_with (go_at_call 14; refine (works_any _ (Hg.out.ext (gr_none G1.out Hgr.out))).mono ?_; rintro e w7 ⟨rfl, g7⟩)
        go_ret
        exact ⟨rfl, gr_none (gr_none G1.out Hgr.out) g7⟩
end Go.Proofs.YtikgobndekgjcaaDoor
