/-
  InputBack, the law's own walk.
-/
import Derived.Test.YtikgobndekgjcaaDoorHeads
namespace Go.Proofs.YtikgobndekgjcaaDoor
open Go.RowKit
set_option maxRecDepth 100000
set_option maxHeartbeats 400000

theorem RdB.take {w : World} {A : Option Addr} {n c : Nat} {b : List UInt8} (h : RdB w (.slice A n c) b) {k : Nat} (hk : k ≤ b.length) : RdB w (.slice A k c) (b.take k) := by
  obtain ⟨hl, A', c', g, off, e, hn, hc, hA0, hA, hx⟩ := h
  cases e
  have hl' : (b.take k).length = k := List.length_take_of_le hk
  unfold RdB
  rw [hl']
  refine ⟨by simp; omega, _, _, g, off, rfl, by omega, hc, hA0, hA, fun j hj => ?_⟩
  rw [hx j (by omega), List.map_take, List.getElem?_take, if_pos (by omega)]

theorem checkM_n (b : List UInt8) : ∃ N : UInt32, N.toNat = (checkM b).1 := by
  rcases h : checkM b with ⟨n, l, f⟩
  rcases f with _ | ⟨e, c⟩
  · obtain ⟨m, hh, _⟩ := check_inv h
    have := head_bound hh
    exact ⟨UInt32.ofNat n, u32_of (by omega)⟩
  · exact ⟨0, (check_at h).1.symm⟩

set_option maxHeartbeats 2000000 in
theorem back_any (v : Value) (b : List UInt8) (i : Int) (w : World) (hg : Glob w) (h : RdB w v b) :
    Calls Tryd.prog 5 #[v, .int .i64 i] w fun e w' => e = .returned (.bool true) ∧ w.grownBy w' none := by
  obtain ⟨A, c, rfl⟩ := h.form
  have hcap := h.cap
  by_cases hl : 8192 < b.length
  · go_enter Tryd.func5, Tryd.ntmps5
    go_wp2_with (go_at_call 14; refine (works_any _ hg).mono ?_; rintro e w1 ⟨rfl, g1⟩)
    go_ret
    exact ⟨rfl, g1⟩
  have Hr := Lib.hid h
  have Hg := Lib.hid hg
  have hc := Check_any _ b w hg h (by omega)
  unfold ResC4 at hc
  obtain ⟨N, hN⟩ := checkM_n b
  have hlen := checkM_len b
  rcases hck : checkM b with ⟨n, l, f⟩
  rw [hck] at hc hN hlen
  simp only at hN hlen
  subst hN
  have Hck := Lib.hid hck
  clear hck
  rcases f with _ | ⟨fe, fp⟩
  · simp only [Flt.e, Flt.p, Option.getD] at hc
    have Hc := Lib.hid hc
    have hw := write_check Hck.out
    rw [UInt32.ofNat_toNat] at hw
    have hw2 := fun v wx hx => write_any N v l wx hx (by omega)
    unfold ResW at hw2
    rw [hw] at hw2
    have Hw := Lib.hid hw2
    clear hw hw2 hc h hg
    go_enter Tryd.func5, Tryd.ntmps5
    go_wp2_with fail
    refine Hc.out.mono ?_
    rintro e w1 ⟨⟨v1, rfl, o1⟩, g1⟩
    have R1 := Lib.hid o1.rd
    have G1 := Lib.hid g1
    clear o1 g1
    go_wp2_with fail
    refine (Hw.out _ _ R1.out).mono ?_
    rintro e w2 ⟨⟨v2, rfl, o2⟩, g2⟩
    have G2 := Lib.hid (gr_none G1.out g2)
    have O2 := Lib.hid o2.rd
    clear o2 g2
    by_cases hcut : 0 ≤ i ∧ i < b.length
    · obtain ⟨k, rfl⟩ : ∃ k : Nat, i = (k : Int) := ⟨i.toNat, by omega⟩
      have hkb : k < b.length := by omega
      clear hcut
      have hk2 := fun wx hx => Check_any _ (b.take k) wx (Hg.out.ext hx) ((Hr.out.ext hx).take (by omega)) (by rw [List.length_take]; omega)
      unfold ResC4 at hk2
      rw [check_cut Hck.out hkb] at hk2
      simp only [Flt.e, Flt.p, Option.getD] at hk2
      have Hk := Lib.hid hk2
      clear hk2
      go_wp2_with (first
        | (go_at_call 23; refine (eqBytes_any _ _ b b _ O2.out (Hr.out.ext G2.out)).mono ?_; rintro e w3 ⟨rfl, rfl⟩; rw [beq_self_eq_true])
        | (go_at_call 16; refine (Hk.out _ G2.out).mono ?_; rintro e w4 ⟨⟨v4, rfl, -⟩, g4⟩)
        | (go_at_call 14; refine (works_any _ (Hg.out.ext (gr_none G2.out g4))).mono ?_; rintro e w5 ⟨rfl, g5⟩))
      go_ret
      exact ⟨rfl, gr_none (gr_none G2.out g4) g5⟩
    · by_cases hneg : i < 0
      · clear hcut
        go_wp2_with (first
          | (go_at_call 23; refine (eqBytes_any _ _ b b _ O2.out (Hr.out.ext G2.out)).mono ?_; rintro e w3 ⟨rfl, rfl⟩; rw [beq_self_eq_true])
          | (go_at_call 14; refine (works_any _ (Hg.out.ext G2.out)).mono ?_; rintro e w5 ⟨rfl, g5⟩))
        go_ret
        exact ⟨rfl, gr_none G2.out g5⟩
      · have hge : (b.length : Int) ≤ i := by omega
        clear hcut
        go_wp2_with (first
          | (go_at_call 23; refine (eqBytes_any _ _ b b _ O2.out (Hr.out.ext G2.out)).mono ?_; rintro e w3 ⟨rfl, rfl⟩; rw [beq_self_eq_true])
          | (go_at_call 14; refine (works_any _ (Hg.out.ext G2.out)).mono ?_; rintro e w5 ⟨rfl, g5⟩))
        go_ret
        exact ⟨rfl, gr_none G2.out g5⟩
  · obtain ⟨h0, rfl, he, hfp, hcc⟩ := check_at Hck.out
    rw [h0] at hc
    simp only [Flt.e, Flt.p, Option.getD] at hc
    have Hc := Lib.hid hc
    have hk2 := fun wx hx => Check_any _ (b.take fp) wx (Hg.out.ext hx) ((Hr.out.ext hx).take (by omega)) (by rw [List.length_take]; omega)
    unfold ResC4 at hk2
    have hne : ((fe : Int) != 0) = true := by rw [bne_iff_ne]; omega
    have hd1 : decide ((b.length : Int) < (fp : Int)) = false := by simp; omega
    clear hc h hg h0
    rcases hcc with ⟨n', l', hcc⟩ | hcc
    · rw [hcc] at hk2
      simp only [Flt.e, Flt.p, Option.getD] at hk2
      have Hk := Lib.hid hk2
      clear hk2 hcc
      go_enter Tryd.func5, Tryd.ntmps5
      go_wp2_with fail
      refine Hc.out.mono ?_
      rintro e w1 ⟨⟨v1, rfl, o1⟩, g1⟩
      obtain ⟨A1, q1, rfl⟩ := o1.rd.form
      have G1 := Lib.hid g1
      clear o1 g1
      simp only [List.length_nil]
      go_wp2_with (first
        | (go_at_call 16; refine (Hk.out _ G1.out).mono ?_; rintro e w4 ⟨⟨v4, rfl, -⟩, g4⟩)
        | (go_at_call 14; refine (works_any _ (Hg.out.ext (gr_none G1.out g4))).mono ?_; rintro e w5 ⟨rfl, g5⟩))
      go_ret
      exact ⟨rfl, gr_none (gr_none G1.out g4) g5⟩
    · rw [hcc] at hk2
      simp only [Flt.e, Flt.p, Option.getD] at hk2
      have Hk := Lib.hid hk2
      clear hk2 hcc
      go_enter Tryd.func5, Tryd.ntmps5
      go_wp2_with fail
      refine Hc.out.mono ?_
      rintro e w1 ⟨⟨v1, rfl, o1⟩, g1⟩
      obtain ⟨A1, q1, rfl⟩ := o1.rd.form
      have G1 := Lib.hid g1
      clear o1 g1
      simp only [List.length_nil]
      go_wp2_with (first
        | (go_at_call 16; refine (Hk.out _ G1.out).mono ?_; rintro e w4 ⟨⟨v4, rfl, -⟩, g4⟩)
        | (go_at_call 14; refine (works_any _ (Hg.out.ext (gr_none G1.out g4))).mono ?_; rintro e w5 ⟨rfl, g5⟩))
      go_ret
      exact ⟨rfl, gr_none (gr_none G1.out g4) g5⟩
end Go.Proofs.YtikgobndekgjcaaDoor
