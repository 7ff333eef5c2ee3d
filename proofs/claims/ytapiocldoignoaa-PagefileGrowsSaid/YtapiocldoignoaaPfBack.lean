/-
  PagefileBack, the walk.
-/
import Derived.Test.YtapiocldoignoaaLd
namespace Go.Proofs.Ytapiocldoignoaa
open Go.RowKit
set_option maxRecDepth 100000
set_option maxHeartbeats 400000

theorem eqB_true {v v' : Value} {l : List UInt8} {w : World} (h : RdB w v l) (h' : RdB w v' l) :
    Calls Try.prog 15 #[v, v'] w fun e w' => e = .returned (.bool true) ∧ w = w' := by
  have := eqBytes_any v v' l l w h h'
  rwa [show (l == l) = true from by simp] at this
theorem PgW.writeBad {w0 w : World} {d pf q n m : Nat} {g : Nat → List UInt8} (h : PgW w0 w d pf q n g m) {k : Int} (hk : k < 0 ∨ (n : Int) < k) (hk2 : -9223372036854775808 ≤ k ∧ k ≤ 9223372036854775807) (hm : m ≤ 1000000) {bv : Value} {b : List UInt8} (hb : RdB w bv b) (hb2 : b.length ≤ 240) :
    Calls Try.prog 11 #[.pointer (some ⟨pf, 0, none⟩), .int .i64 k, bv] w fun e w' => e = .returned (.int .i64 1) ∧ PgW w0 w' d pf q n g m := by
  obtain ⟨o, c, S, h1, h2, h3, h4⟩ := h
  have hfs : S.fs.length = 1 := by obtain ⟨c', la, e, _⟩ := h2.file; rw [e]; rfl
  refine (pwrite_any h1 h3 (by simp) k hk2 bv b hb (by omega) (by omega) (by have := h2.nl; omega)).mono ?_
  have e0 : S.pwrite an k b = (S, 1) := by
    unfold Dk.pwrite
    by_cases h0 : k < 0
    · rw [if_pos h0]
    · rw [if_neg h0, if_neg (by omega), h2.size, if_neg (by simp), if_pos (by simp; omega)]
  rw [e0]
  rintro e w' ⟨rfl, o', c', h1', ch⟩
  exact ⟨rfl, o', c', _, h1', h2, h3.ch ch, ch.gr h4 fun i hi => (h1.inb i hi).1⟩
set_option maxHeartbeats 4000000 in
theorem back_any (v0 : Value) (ll : List (List UInt8)) (k : Int) (hk : -9223372036854775808 ≤ k ∧ k ≤ 9223372036854775807) (v2 : Value) (b : List UInt8) (w : World) (h0 : RdBB w v0 ll) (h2 : RdB w v2 b) :
    Calls Try.prog 3 #[v0, .int .i64 k, v2] w fun e w' => e = .returned (.bool true) ∧ w.grownBy w' none := by
  obtain ⟨A, c0, rfl⟩ := h0.form
  obtain ⟨A2, c2, rfl⟩ := h2.form
  have H0 := Lib.hid h0
  have H2 := Lib.hid h2
  by_cases hbig : 40 < ll.length
  · clear h0 h2
    go_enter Try.func3, Try.ntmps3
    go_wp2_with (go_at_call 9; refine (works_any _).mono ?_; rintro e w1 ⟨rfl, g1⟩)
    go_ret
    exact ⟨rfl, g1⟩
  have hll : ll.length ≤ 40 := by omega
  by_cases hb : 240 < b.length
  · clear h0 h2
    go_enter Try.func3, Try.ntmps3
    go_wp2_with (go_at_call 9; refine (works_any _).mono ?_; rintro e w1 ⟨rfl, g1⟩)
    go_ret
    exact ⟨rfl, g1⟩
  have hb2 : b.length ≤ 240 := by omega
  obtain ⟨g, off, hA, hc, hcm, hcells⟩ := h0.at_
  have HA := Lib.hid hA
  have HC := Lib.hid hcells
  unfold maxLen at hcm
  clear h0 h2 hA hcells
  have HLD := Lib.hid (laid_any _ ll w H0.out hll)
  go_enter Try.func3, Try.ntmps3
  go_wp2_with fail
  refine HLD.out.mono ?_
  rintro e w1 ⟨g1, rfl | ⟨hsm, d, pf, rfl, p1⟩⟩
  · have G1 := Lib.hid g1
    clear g1
    go_wp2_with fail
    refine (works_any _).mono ?_
    rintro e w2 ⟨rfl, g2⟩
    go_wp2
    go_ret
    exact ⟨rfl, gr_none G1.out g2⟩
  have P1 := Lib.hid p1
  have HS := Lib.hid hsm
  have HCP : Hid (Calls Try.prog 12 #[.slice A2 b.length c2] w1 fun e w' => ∃ v', e = .returned v' ∧ OwnB w' w1.heap.size v' b ∧ w1.grownBy w' none) := copyBytes_any _ _ w1 (H2.out.ext g1) (by omega)
  clear g1 p1 hsm
  by_cases hkb : k < 0 ∨ (ll.length : Int) < k
  · have HWB : Hid (∀ (wx : World) (v' : Value), w1.grownBy wx none → OwnB wx w1.heap.size v' b → Calls Try.prog 11 #[.pointer (some ⟨pf, 0, none⟩), .int .i64 k, v'] wx fun e w' => e = .returned (.int .i64 1) ∧ PgW w w' d pf 4096 ll.length (fun i => ll.getD i []) ll.length) := fun wx v' hg ho =>
      PgW.writeBad (P1.out.ext hg) hkb hk (by omega) ho.rd hb2
    go_wp2_with fail
    refine HCP.out.mono ?_
    rintro e w2 ⟨v3, rfl, o2, g2⟩
    have HW3 := Lib.hid (HWB.out _ _ g2 o2)
    clear o2 g2
    go_wp2_with fail
    refine HW3.out.mono ?_
    rintro e w3 ⟨rfl, p3⟩
    have G3 := Lib.hid p3.gr
    clear p3
    rcases hkb with hk0 | hk0
    · go_wp2_with (go_at_call 9; refine (works_any _).mono ?_; rintro e w4 ⟨rfl, g4⟩)
      go_ret
      exact ⟨rfl, gr_none G3.out g4⟩
    · have hk1 : (0 : Int) ≤ k := by omega
      go_wp2_with (go_at_call 9; refine (works_any _).mono ?_; rintro e w4 ⟨rfl, g4⟩)
      go_ret
      exact ⟨rfl, gr_none G3.out g4⟩
  · obtain ⟨kn, rfl⟩ : ∃ kn : Nat, k = (kn : Int) := ⟨k.toNat, by omega⟩
    have hkn : kn ≤ ll.length := by omega
    have hki : (kn : Int) ≤ (ll.length : Int) := by omega
    have hk0 : (0 : Int) ≤ (kn : Int) := by omega
    obtain ⟨N, hN⟩ : ∃ N, N = max ll.length (kn + 1) := ⟨_, rfl⟩
    have HWG : Hid (∀ (wx : World) (v' : Value), w1.grownBy wx none → OwnB wx w1.heap.size v' b → Calls Try.prog 11 #[.pointer (some ⟨pf, 0, none⟩), .int .i64 kn, v'] wx fun e w' => e = .returned (.int .i64 0) ∧ PgW w w' d pf 4096 N (updG (fun i => ll.getD i []) kn b) (ll.length + 1)) := fun wx v' hg ho => by
      rw [hN]
      exact PgW.write (P1.out.ext hg) hkn (by omega) (by omega) (by omega) ho.rd hb2
    have hN1 : N ≤ 41 := by omega
    have hN2 : (N : Int) = max (ll.length : Int) ((kn : Int) + 1) := by omega
    have HN2 := Lib.hid hN2
    have HN3 : Hid (∀ i, i < N → i ≠ kn → i < ll.length) := fun i h1 h2 => by omega
    clear hN hkb hN2
    go_wp2_with fail
    refine HCP.out.mono ?_
    rintro e w2 ⟨v3, rfl, o2, g2⟩
    have HW3 := Lib.hid (HWG.out _ _ g2 o2)
    clear o2 g2
    go_wp2_with fail
    refine HW3.out.mono ?_
    rintro e w3 ⟨rfl, p3⟩
    have P3 := Lib.hid p3
    clear p3
    go_wp2_with fail
    refine P3.out.pages.mono ?_
    rintro e w4 ⟨rfl, g4⟩
    have P4 := Lib.hid (P3.out.ext g4)
    clear g4
    have hsp : ((ll.length : Int) < (kn : Int) + 1 ∧ ((N : Int) != (kn : Int) + 1) = false) ∨ ((kn : Int) + 1 ≤ (ll.length : Int) ∧ ((N : Int) != (ll.length : Int)) = false) := by
      have := HN2.out
      by_cases hx : (ll.length : Int) < (kn : Int) + 1
      · exact .inl ⟨hx, by rw [bne_eq_false_iff_eq]; omega⟩
      · exact .inr ⟨by omega, by rw [bne_eq_false_iff_eq]; omega⟩
    have HE : Hid (∀ (wx : World) (v v' : Value) (l : List UInt8), RdB wx v l → RdB wx v' l → Calls Try.prog 15 #[v, v'] wx fun e w' => e = .returned (.bool true) ∧ wx = w') := fun wx v v' l => eqB_true
    rcases hsp with ⟨hm1, hm2⟩ | ⟨hm1, hm2⟩
    all_goals
      go_wp2
      go_loopw [12, 13, 14, 15] (fun i _ _ _ wr => ∃ j : Nat, j ≤ N ∧ i = .int .i64 j ∧ PgW w wr d pf 4096 N (updG (fun i => ll.getD i []) kn b) (ll.length + 1)) (fun i _ _ _ _ => N - (intOf i).toNat)
      case atStart => exact ⟨0, by omega, rfl, P4.out⟩
      case round =>
        obtain ⟨j, hj, rfl, hp⟩ := hrel
        have HP := Lib.hid hp
        clear hp
        by_cases hlt : j < N
        · have HRD := Lib.hid (HP.out.read hlt (by omega))
          have GR := Lib.hid HP.out.gr
          by_cases hjk : j = kn
          · have HU : Hid (updG (fun i => ll.getD i []) kn b j = b) := by show _ = _; rw [hjk]; simp [updG]
            rw [HU.out] at HRD
            have hne : ((j : Int) != (kn : Int)) = false := by rw [bne_eq_false_iff_eq]; omega
            clear hjk
            go_wp2_with fail
            refine HRD.out.mono ?_
            rintro e w5 ⟨⟨v5, rfl, o5⟩, g5⟩
            have HE5 := Lib.hid (HE.out _ _ _ b o5.rd (H2.out.ext (gr_none GR.out g5)))
            have P5 := Lib.hid (HP.out.ext g5)
            clear o5 g5
            go_wp2_with fail
            refine HE5.out.mono ?_
            rintro e w6 ⟨rfl, rfl⟩
            go_wp2
            refine ⟨⟨j + 1, by omega, by congr 1, P5.out⟩, ?_⟩
            simp only [intOf]
            omega
          · have HU : Hid (updG (fun i => ll.getD i []) kn b j = ll.getD j []) := by show _ = _; simp [updG, hjk]
            rw [HU.out] at HRD
            have hne : ((j : Int) != (kn : Int)) = true := by rw [bne_iff_ne]; omega
            have hjl : j < ll.length := HN3.out j hlt hjk
            have := HA.out (by omega)
            subst this
            obtain ⟨Ai, ci, hci, hri⟩ := HC.out j hjl
            have hcw := GR.out.cell hci (by simp)
            have HRI := Lib.hid (hri.ext GR.out)
            clear hci hri hjk HU
            generalize ll.getD j [] = bj at HRD hcw HRI
            go_wp2_with fail
            refine HRD.out.mono ?_
            rintro e w5 ⟨⟨v5, rfl, o5⟩, g5⟩
            have HE5 := Lib.hid (HE.out _ _ _ bj o5.rd (HRI.out.ext g5))
            have P5 := Lib.hid (HP.out.ext g5)
            clear o5 g5
            go_wp2_with fail
            refine HE5.out.mono ?_
            rintro e w6 ⟨rfl, rfl⟩
            go_wp2
            refine ⟨⟨j + 1, by omega, by congr 1, P5.out⟩, ?_⟩
            simp only [intOf]
            omega
        · have e1 : j = N := by omega
          subst e1
          have G6 := Lib.hid HP.out.gr
          go_wp2_with (go_at_call 9; refine (works_any _).mono ?_; rintro e w7 ⟨rfl, g7⟩)
          go_ret
          exact ⟨rfl, gr_none G6.out g7⟩
end Go.Proofs.Ytapiocldoignoaa
