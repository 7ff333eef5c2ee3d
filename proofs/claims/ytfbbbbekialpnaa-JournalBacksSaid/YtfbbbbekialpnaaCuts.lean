/-
  DiskCuts, the walk.
-/
import Derived.Test.YtfbbbbekialpnaaL6
namespace Go.Proofs.Ytfbbbbekialpnaa
open Go.RowKit
set_option maxRecDepth 100000
set_option maxHeartbeats 400000

theorem rd_nilI (w : World) : Rd w 1 (.slice none 0 0) ([] : List Int).length (intL []) := Rd.nil w 1
def xn : List UInt8 := [120]
set_option maxHeartbeats 4000000 in
theorem cuts_any (v : Value) (b : List UInt8) (n : Int) (hn : -9223372036854775808 ≤ n ∧ n ≤ 9223372036854775807) (v2 : Value) (more : List UInt8) (w : World) (h : RdB w v b) (h2 : RdB w v2 more) :
    Calls Try.prog 4 #[v, .int .i64 n, v2] w fun e w' => e = .returned (.bool true) ∧ w.grownBy w' none := by
  obtain ⟨A, c0, rfl⟩ := h.form
  obtain ⟨A2, c2, rfl⟩ := h2.form
  have hcap := h.cap
  have HV := Lib.hid h
  have HV2 := Lib.hid h2
  clear h h2
  by_cases hbig : 4096 < b.length
  · go_enter Try.func4, Try.ntmps4
    go_wp2_with (go_at_call 15; refine (works6_any _).mono ?_; rintro e w1 ⟨rfl, g1⟩)
    go_ret
    exact ⟨rfl, g1⟩
  by_cases hbig2 : 4096 < more.length
  · go_enter Try.func4, Try.ntmps4
    go_wp2_with (go_at_call 15; refine (works6_any _).mono ?_; rintro e w1 ⟨rfl, g1⟩)
    go_ret
    exact ⟨rfl, g1⟩
  have hb1 : b.length ≤ 4096 := by omega
  have hb2 : more.length ≤ 4096 := by omega
  clear hbig hbig2
  have HNEW := Lib.hid (DA.new 4096 w (by omega))
  obtain ⟨e1, q1⟩ := one_new 4096 an_right
  have s1 := (Sm.new 4096).create an
  obtain ⟨S1, hS1⟩ : ∃ S1, S1 = ((newD 4096).create an).1 := ⟨_, rfl⟩
  rw [← hS1] at q1 s1
  have hC0 : Hid (∀ (wx : World) d o, DA w d o (newD 4096) wx → Calls Try.prog 17 #[.pointer (some ⟨d, 0, none⟩), .string ⟨an.toArray⟩] wx fun e w' => e = .returned (.int .i64 0) ∧ DP w d o S1 wx w') := fun wx d o hx => by
    have := hx.create an (by simp [an]) (by simp [newD])
    rw [e1, ← hS1] at this
    exact this
  obtain ⟨e2, q2, -⟩ := q1.write an_right (p := 0) (b := b) (by simp) (by omega) (by simp only [List.length_nil]; unfold sectors; omega)
  have s2 := s1.write an (0 : Nat) b
  obtain ⟨S2, hS2⟩ : ∃ S2, S2 = (S1.write an (0 : Nat) b).1 := ⟨_, rfl⟩
  rw [← hS2] at q2 s2
  have ov : overZ [] 0 b = b := by simp [overZ]
  rw [ov] at q2
  obtain ⟨e3, q3, -⟩ := q2.sync an_right
  have s3 := s2.sync an
  obtain ⟨S3, hS3⟩ : ∃ S3, S3 = (S2.sync an).1 := ⟨_, rfl⟩
  rw [← hS3] at q3 s3
  have E2 := Lib.hid e2
  have E3 := Lib.hid e3
  have HS2 := Lib.hid hS2
  have HS3 := Lib.hid hS3
  have Q3 := Lib.hid q3
  have K1 := Lib.hid s1
  have K2 := Lib.hid s2
  have K3 := Lib.hid s3
  clear e1 e2 e3 q1 q2 q3 hS1 hS2 hS3 s1 s2 s3 ov
  go_enter Try.func4, Try.ntmps4
  go_wp2_with fail
  refine HNEW.out.mono ?_
  rintro e w1 ⟨d, o1, rfl, h1⟩
  have HC1 := Lib.hid (hC0.out _ _ _ h1)
  clear h1
  go_wp2_with fail
  refine HC1.out.mono ?_
  rintro e w2 ⟨rfl, o2, h2, -⟩
  have H2 := Lib.hid h2
  have HT := Lib.hid (twin_any _ b w2 (HV.out.ext h2.gr) (by omega))
  clear h2 HC1
  go_wp2_with fail
  refine HT.out.mono ?_
  rintro e w3 ⟨⟨v3, rfl, b3⟩, g3⟩
  have HW := Lib.hid (H2.out.write g3 an (by simp [an]) (0 : Nat) (by omega) b3 (by omega) (by have := K1.out.fl; omega) (by have := K1.out.nl; omega))
  rw [E2.out, ← HS2.out] at HW
  clear b3 g3 HT
  go_wp2_with fail
  refine HW.out.mono ?_
  rintro e w4 ⟨rfl, o4, h4, -⟩
  have HS := Lib.hid (h4.sync an (by simp [an]))
  rw [E3.out, ← HS3.out] at HS
  clear h4 HW
  go_wp2_with fail
  refine HS.out.mono ?_
  rintro e w5 ⟨rfl, o5, h5, -⟩
  have HCU := Lib.hid (h5.cut an (by simp [an]) n hn)
  clear h5 HS
  by_cases hbad : n < 0 ∨ (b.length : Int) < n
  · rw [Q3.out.cut_bad hbad] at HCU
    have hd1 : decide (n < 0) = true ∨ decide ((b.length : Int) < n) = true := by simpa using hbad
    go_wp2_with fail
    refine HCU.out.mono ?_
    rintro e w6 ⟨rfl, o6, h6, -⟩
    have HG := Lib.hid h6.gr
    clear h6
    rcases hd1 with hd1 | hd1
    · clear hbad
      go_wp2_with (go_at_call 15; refine (works6_any _).mono ?_; rintro e w7 ⟨rfl, g7⟩)
      go_ret
      exact ⟨rfl, gr_none HG.out g7⟩
    · have hd2 : decide (n < 0) = false := by simp at hd1 ⊢; omega
      clear hbad
      go_wp2_with (go_at_call 15; refine (works6_any _).mono ?_; rintro e w7 ⟨rfl, g7⟩)
      go_ret
      exact ⟨rfl, gr_none HG.out g7⟩
  · obtain ⟨k, rfl⟩ := Int.eq_ofNat_of_zero_le (show 0 ≤ n by omega)
    have hk : k ≤ b.length := by omega
    obtain ⟨e4, q4⟩ := Q3.out.cut an_right hk
    have s4 := K3.out.cut an (k : Int)
    rw [e4] at HCU
    obtain ⟨S4, hS4⟩ : ∃ S4, S4 = (S3.cut an (k : Int)).1 := ⟨_, rfl⟩
    rw [← hS4] at q4 s4 HCU
    have hlt : (b.take k).length = k := by simp; omega
    obtain ⟨e5, q5, -⟩ := q4.write an_right (p := k) (b := more) (by omega) (by omega) (by unfold sectors; omega)
    have s5 := s4.write an (k : Nat) more
    obtain ⟨S5, hS5⟩ : ∃ S5, S5 = (S4.write an (k : Nat) more).1 := ⟨_, rfl⟩
    rw [← hS5] at q5 s5
    have ov : overZ (b.take k) k more = b.take k ++ more := by
      unfold overZ
      rw [List.take_of_length_le (by omega), List.drop_of_length_le (by omega), List.append_nil]
    rw [ov] at q5
    have hrd := q5.read an_right 0 16777216
    rw [List.drop_zero, List.take_of_length_le (by simp; omega)] at hrd
    have E5 := Lib.hid e5
    have HS5 := Lib.hid hS5
    have Q5 := Lib.hid q5
    have K4 := Lib.hid s4
    have K5 := Lib.hid s5
    have HRD := Lib.hid hrd
    have hd1 : decide ((b.length : Int) < (k : Int)) = false := by simp; omega
    have hd2 : decide (b.length < k) = false := by simp; omega
    have hki : (k : Int) ≤ (b.length : Int) := by omega
    clear e4 e5 q4 q5 s4 s5 hS4 hS5 ov hrd hbad hn
    go_wp2_with fail
    refine HCU.out.mono ?_
    rintro e w6 ⟨rfl, o6, h6, -⟩
    have H6 := Lib.hid h6
    have HT := Lib.hid (twin_any _ more w6 (HV2.out.ext h6.gr) (by omega))
    clear h6 HCU
    go_wp2_with fail
    refine HT.out.mono ?_
    rintro e w7 ⟨⟨v7, rfl, b7⟩, g7⟩
    have HW := Lib.hid (H6.out.write g7 an (by simp [an]) (k : Nat) (by omega) b7 (by omega) (by have := K4.out.fl; omega) (by have := K4.out.nl; omega))
    rw [E5.out, ← HS5.out] at HW
    clear b7 g7 HT
    go_wp2_with fail
    refine HW.out.mono ?_
    rintro e w8 ⟨rfl, o8, h8, -⟩
    have H8 := Lib.hid h8
    have HR := Lib.hid (h8.read an (by simp [an]) (0 : Nat) (16777216 : Nat) (by omega) (by omega))
    rw [HRD.out] at HR
    clear h8 HW
    go_wp2_with fail
    refine HR.out.mono ?_
    rintro e w9 ⟨⟨v9, rfl, b9⟩, g9⟩
    obtain ⟨A9, c9, rfl⟩ := b9.rd.form
    have hcap9 := b9.rd.cap
    have HSa : Hid (∀ j, Calls Try.prog 28 #[.slice A9 k c9, .slice A k c0] (w9.drewN j) fun e w' => e = .returned (.bool true) ∧ ∃ q, w' = (w9.drewN j).drewN q) := fun j => by
      have r1 : RdB w9 (.slice A9 k c9) (b.take k) := by
        have := b9.rd.take (k := k) (by simp; omega)
        rw [List.take_append_of_le_length (by simp; omega), List.take_take, Nat.min_self] at this
        exact this
      have r2 : RdB w9 (.slice A k c0) (b.take k) := (HV.out.ext (gr_none H8.out.gr g9)).take hk
      have := same6_q _ _ _ _ (w9.drewN j) (r1.ext (gr_drewN _ j none)) (r2.ext (gr_drewN _ j none)) (by omega) (by omega)
      rw [beq_self_eq_true] at this
      exact this
    have HSb : Hid (∀ j, Calls Try.prog 28 #[.slice (cutA A9 c9 k 1) ((List.take k b ++ more).length - k) (c9 - k), .slice A2 more.length c2] (w9.drewN j) fun e w' => e = .returned (.bool true) ∧ ∃ q, w' = (w9.drewN j).drewN q) := fun j => by
      have r1 : RdB w9 (.slice (cutA A9 c9 k 1) ((List.take k b ++ more).length - k) (c9 - k)) more := by
        have := b9.rd.drop (i := k) (by simp; omega)
        rw [List.drop_left' hlt] at this
        exact this
      have r2 := HV2.out.ext (gr_none H8.out.gr g9)
      have := same6_q _ _ _ _ (w9.drewN j) (r1.ext (gr_drewN _ j none)) (r2.ext (gr_drewN _ j none)) (by omega) (by omega)
      rw [beq_self_eq_true] at this
      exact this
    have H9 := Lib.hid (H8.out.ext g9)
    have hlen9 : (List.take k b ++ more).length = k + more.length := by simp; omega
    generalize (List.take k b ++ more).length = n9 at *
    have hn9 : k ≤ n9 := by omega
    have hkc : (k : Int) ≤ (c9 : Int) := by omega
    have hk0 : (k : Int) ≤ (c0 : Int) := by omega
    have hkn : (k : Int) ≤ (n9 : Int) := by omega
    have hnk : decide (n9 < k) = false := by simpa using hn9
    clear b9 g9 hlen9 HR
    go_wp2_with fail
    go_quiet ((go_at_call 28; (first | with_reducible exact Calls.quiet_of (HSa.out _) | with_reducible exact Calls.quiet_of (HSb.out _))))
    obtain ⟨wa, hwa⟩ : ∃ wa, wa = w9.drewN nq := ⟨_, rfl⟩
    have gwa : w9.grownBy wa none := by rw [hwa]; exact gr_drewN _ _ none
    rw [← hwa]
    have HA1 := Lib.hid ((H9.out.ext gwa).arm (1 : Nat) (by omega))
    rw [Q5.out.arm 1] at HA1
    clear hwa gwa HSa HSb H9 H8 H6 H2
    go_wp2_with fail
    refine HA1.out.mono ?_
    rintro e wb ⟨rfl, ob, hb, -⟩
    have HC2 := Lib.hid (hb.create xn (by simp [xn]) (by rw [Q5.out.fl]; omega))
    rw [create_off] at HC2
    clear hb HA1
    go_wp2_with fail
    refine HC2.out.mono ?_
    rintro e wc ⟨rfl, oc, hc, -⟩
    have k6 := K5.out.off
    have HON := Lib.hid (hc.on k6.li (by have := k6.nl; omega) (by have := k6.fl; omega) rfl (rd_nilI wc) (by simp))
    clear hc HC2
    go_wp2_with fail
    refine HON.out.mono ?_
    rintro e we ⟨rfl, ls, hls, oe, he, -⟩
    have q6 := Q5.out.lit (onT S5.off [] ls ls.length)
    have e6 : onT S5.off [] ls ls.length an = b.take k := by
      rw [onT_nil, off_lastsOf, Q5.out.lastsOf]
    rw [e6] at q6
    have hrd := q6.read an_right 0 16777216
    rw [List.drop_zero, List.take_of_length_le (by omega)] at hrd
    have HRE := Lib.hid (he.read an (by simp [an]) (0 : Nat) (16777216 : Nat) (by omega) (by omega))
    rw [hrd] at HRE
    have HGE := Lib.hid he.gr
    clear he hrd q6 e6 hls HON k6
    go_wp2_with fail
    refine HRE.out.mono ?_
    rintro e wf ⟨⟨vf, rfl, bf⟩, gf⟩
    obtain ⟨Af, cf, rfl⟩ := bf.rd.form
    have GF := Lib.hid (gr_none HGE.out gf)
    have bfr : RdB wf (.slice Af (b.take k).length cf) (b.take k) := bf.rd
    rw [hlt] at bfr ⊢
    have HSf : Hid (Calls Try.prog 28 #[.slice Af k cf, .slice A k c0] wf fun e w' => e = .returned (.bool true) ∧ ∃ q, w' = wf.drewN q) := by
      have := same6_q _ _ _ _ wf bfr ((HV.out.ext GF.out).take hk) (by omega) (by omega)
      rw [beq_self_eq_true] at this
      exact this
    clear bf bfr gf HRE HGE hlt
    go_wp2_with fail
    refine HSf.out.mono ?_
    rintro e wg ⟨rfl, qg, rfl⟩
    go_wp2_with (go_at_call 15; refine (works6_any _).mono ?_; rintro e wh ⟨rfl, gh⟩)
    go_ret
    exact ⟨rfl, gr_none (gr_none GF.out (gr_drewN _ _ none)) gh⟩
end Go.Proofs.Ytfbbbbekialpnaa
