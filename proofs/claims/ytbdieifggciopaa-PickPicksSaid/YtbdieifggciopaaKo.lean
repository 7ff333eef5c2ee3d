/-
  Pick: the document's Once.
-/
import Derived.Test.YtbdieifggciopaaKl0
namespace Go.Proofs.Ytbdieifggciopaa
open Go.RowKit
set_option maxRecDepth 100000
set_option maxHeartbeats 400000

theorem safe_arg {w0 w : World} {B : Nat} {v : Value} {m : List Cd} {x : Cd} (hx : RdU w0 x.s x.d.near) (hg : w0.grownBy w none) (ho : OwnC0 w B v m) (hB : w0.heap.size ≤ B) : Safe w v x := by
  refine ⟨Rd.ext hx hg, ?_⟩
  by_cases h0 : x.d.near = []
  · exact .inl h0
  · have hli : Lies w0 x.s := Rd.lies hx (List.length_pos_iff.2 h0) (by omega)
    refine .inr ⟨hli.mono hg.size, fun q e e2 => ?_⟩
    have := hli q e2
    have := Own.lt ho q e
    omega
theorem hasV_succ {m : List Cd} {t : Nat} (ht : t < m.length) (v : UInt32) : hasV ((m.take (t + 1)).map Cd.d) v = (hasV ((m.take t).map Cd.d) v || (m[t].d.v == v)) := by
  unfold hasV
  rw [List.take_succ_eq_append_getElem ht, List.map_append, List.any_append]
  simp
/-- what Once answers. -/
def OnceOut (w : World) (l : List Cd) (e : Ending) (w' : World) : Prop := (∃ u m, e = .returned u ∧ OwnR w' w.heap.size u m ∧ m.map Cd.d = onceD (l.map Cd.d) ∧ (∀ x ∈ m, x ∈ l) ∧ m.length ≤ l.length) ∧ w.grownBy w' none
set_option maxHeartbeats 4000000 in
theorem once_any (v : Value) (l : List Cd) (w : World) (h : RdC w v l) (hn : l.length ≤ 1000) :
    Calls Try.prog 16 #[v] w (OnceOut w l) := by
  obtain ⟨A, c, rfl⟩ := h.form
  obtain ⟨g, off, hA, _, hcells⟩ := h.1.at_ cd3
  have HA := Lib.hid hA
  have HC := Lib.hid hcells
  have HL := Lib.hid h.2
  clear hA hcells h
  go_enter Try.func16, Try.ntmps16
  go_wp2
  go_loopw [3, 4] (fun u i wr => ∃ (k : Nat) (m : List Cd), k ≤ l.length ∧ i = .int .i64 k ∧ Hid (OwnR wr w.heap.size u m) ∧ Hid (m.map Cd.d = onceD ((l.take k).map Cd.d)) ∧ Hid (∀ x ∈ m, x ∈ l) ∧ m.length ≤ k ∧ w.grownBy wr none) (fun _ i _ => l.length - (intOf i).toNat)
  case atStart => exact ⟨0, [], by omega, rfl, OwnR.nil _ _, Lib.hid rfl, Lib.hid (fun x hx => by cases hx), by simp, gr_refl _ _⟩
  case round =>
    obtain ⟨k, m, hk, rfl, ho, hm, hsub, hml, hg⟩ := hrel
    obtain ⟨Au, cu, rfl⟩ := RdC.form ho.out.rd
    have hz := hg.size
    have HG := Lib.hid hg
    clear hg
    by_cases hlt : k < l.length
    · have := HA.out (by omega)
      subst this
      have HT : Hid (onceD ((l.take (k + 1)).map Cd.d) = putD (onceD ((l.take k).map Cd.d)) l[k].d) := by
        show _ = _
        rw [map_take_succ hlt]
        unfold onceD
        rw [List.foldl_append]; rfl
      have HXM : Hid (l[k] ∈ l) := List.getElem_mem hlt
      rcases hx : l[k] with ⟨⟨xa, xb, xl⟩, xs⟩
      have HXL : Hid (RdU w xs xl) := by have := HL.out _ HXM.out; rw [hx] at this; exact this
      rw [hx] at HT HXM
      have HX := Lib.hid hx
      clear hx
      obtain ⟨A2, c2', rfl⟩ := RdU.form HXL.out
      obtain ⟨g2, off2, hA2, _, hc2⟩ := ho.out.rd.1.at_ cd3
      have HA2 := Lib.hid hA2
      have HC2 := Lib.hid hc2
      have HCX : Hid (∀ wx, w.grownBy wx none → wx.cell? ⟨g, off + k * 3, none⟩ = some (.int .u32 xa.toNat) ∧ wx.cell? ⟨g, off + k * 3 + 1, none⟩ = some (.int .u64 xb.toNat) ∧ wx.cell? ⟨g, off + k * 3 + 2, none⟩ = some (.slice A2 xl.length c2')) := fun wx hx => at3C HC.out hx hlt HX.out
      clear hA2 hc2
      go_wp2
      go_loopw [5, 6] (fun b i wq => ∃ (t : Nat) (th : Bool), t ≤ m.length ∧ b = .bool th ∧ i = .int .i64 t ∧ Hid (th = hasV ((m.take t).map Cd.d) xa) ∧ wr.grownBy wq none) (fun _ i _ => m.length - (intOf i).toNat)
      case atStart => exact ⟨0, false, by omega, rfl, rfl, Lib.hid rfl, gr_refl _ _⟩
      case round =>
        obtain ⟨t, th, ht, rfl, rfl, hth, hgq⟩ := hrel
        obtain ⟨wo, rfl⟩ : ∃ wo, wo = wr := ⟨_, rfl⟩
        have HGQ := Lib.hid hgq
        clear hgq
        obtain ⟨c0, c1, c2⟩ := HCX.out wo (gr_none HG.out HGQ.out)
        by_cases htl : t < m.length
        · have := HA2.out (by omega)
          subst this
          have HSU := Lib.hid (hasV_succ htl xa)
          rcases hy : m[t] with ⟨⟨ya, yb, yl⟩, ys⟩
          obtain ⟨d0, d1, d2⟩ := at3C HC2.out HGQ.out htl hy
          rw [hy] at HSU
          clear hy
          cases th
          · by_cases he : ya.toNat = xa.toNat
            · have b1 : ((ya.toNat : Int) == (xa.toNat : Int)) = true := by simp; omega
              have HN : Hid (true = hasV ((m.take (t + 1)).map Cd.d) xa) := by
                show _ = _
                rw [HSU.out, ← hth.out, UInt32.toNat_inj.1 he]
                simp
              clear he hth
              go_wp2_with fail
              go_quiet (fail)
              go_wp2
              go_roundw
              case rel => exact ⟨t + 1, true, by omega, rfl, by go_num, HN, gr_none HGQ.out (gr_drewN _ _ _)⟩
              case measure => simp [intOf]; omega
            · have b1 : ((ya.toNat : Int) == (xa.toNat : Int)) = false := by simp; omega
              have HN : Hid (false = hasV ((m.take (t + 1)).map Cd.d) xa) := by
                show _ = _
                have hne : (ya == xa) = false := by
                  rw [beq_eq_false_iff_ne]; exact fun e => he (by rw [e])
                rw [HSU.out, ← hth.out]
                simp only [hne, Bool.or_self]
              clear he hth
              go_wp2_with fail
              go_quiet (fail)
              go_wp2
              go_roundw
              case rel => exact ⟨t + 1, false, by omega, rfl, by go_num, HN, gr_none HGQ.out (gr_drewN _ _ _)⟩
              case measure => simp [intOf]; omega
          · have HN : Hid (true = hasV ((m.take (t + 1)).map Cd.d) xa) := by
              show _ = _
              rw [HSU.out, ← hth.out]; rfl
            clear hth
            go_wp2_with fail
            go_quiet (fail)
            go_wp2
            go_roundw
            case rel => exact ⟨t + 1, true, by omega, rfl, by go_num, HN, gr_none HGQ.out (gr_drewN _ _ _)⟩
            case measure => simp [intOf]; omega
        · obtain rfl : t = m.length := by omega
          have HTH : Hid (th = hasV (onceD ((l.take k).map Cd.d)) xa) := by have := hth.out; rw [List.take_length, hm.out] at this; exact this
          have HOW := Lib.hid (ho.out.ext HGQ.out)
          have HGW := Lib.hid (gr_none HG.out HGQ.out)
          clear hth ho
          cases th
          · have HP : Hid (putD (onceD ((l.take k).map Cd.d)) ⟨xa, xb, xl⟩ = onceD ((l.take k).map Cd.d) ++ [⟨xa, xb, xl⟩]) := by
              show _ = _
              unfold putD
              rw [← HTH.out]; rfl
            have HSF : Hid (Safe wo (.slice Au m.length cu) ⟨⟨xa, xb, xl⟩, .slice A2 xl.length c2'⟩) := safe_arg HXL.out HGW.out HOW.out.1 (Nat.le_refl _)
            have hzw : w.heap.size ≤ wo.heap.size := HGW.out.size
            go_wp2_with (at_builtin; refine wp_app1C (w := wo) ⟨⟨xa, xb, xl⟩, .slice A2 xl.length c2'⟩ _ rfl rfl rfl (.tmp 35) (.tmp 40) rfl rfl HOW.out.1 _ rfl rfl (by omega) hzw ?_; intro v6 w6 h6 g6 a6)
            have ho6 := Lib.hid (HOW.out.app h6 g6 a6 HSF.out)
            have hg6 : w.grownBy w6 none := gr_trans HGW.out g6 (.inr fun q e => HOW.out.1.lt q e)
            go_roundw
            case rel => exact ⟨k + 1, _, by omega, by go_num, ho6, Lib.hid (by rw [List.map_append, hm.out, HT.out, HP.out]; rfl), Lib.hid (fun y hy => by
              rcases List.mem_append.1 hy with hy | hy
              · exact hsub.out y hy
              · rw [List.mem_singleton.1 hy]; exact HXM.out), by rw [List.length_append]; simp; omega, hg6⟩
            case measure => simp [intOf]; omega
          · have HP : Hid (putD (onceD ((l.take k).map Cd.d)) ⟨xa, xb, xl⟩ = onceD ((l.take k).map Cd.d)) := by
              show _ = _
              unfold putD
              rw [← HTH.out]; rfl
            go_wp2
            go_roundw
            case rel => exact ⟨k + 1, m, by omega, by go_num, HOW, Lib.hid (by rw [hm.out, HT.out, HP.out]), hsub, by omega, HGW.out⟩
            case measure => simp [intOf]; omega
    · obtain rfl : k = l.length := by omega
      have HM : Hid (m.map Cd.d = onceD (l.map Cd.d)) := by have := hm.out; rw [List.take_length] at this; exact this
      clear hm
      go_wp2
      go_ret
      exact ⟨⟨_, m, rfl, ho.out, HM.out, hsub.out, hml⟩, HG.out⟩
end Go.Proofs.Ytbdieifggciopaa
