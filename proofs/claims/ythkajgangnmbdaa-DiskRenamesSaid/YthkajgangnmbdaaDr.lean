/-
  DiskRenames: the walk (printed by wip/tools/gen_dr.py).
-/
import Derived.Test.YthkajgangnmbdaaFls
import Derived.Test.YthkajgangnmbdaaNs
namespace Go.Proofs.Ythkajgangnmbdaa
open Go.RowKit
set_option maxRecDepth 100000
set_option maxHeartbeats 400000

set_option maxHeartbeats 8000000 in
theorem renames_any (v v1 : Value) (a b : List UInt8) (there ahead : Bool) (w : World) (h : RdB w v a) (h1 : RdB w v1 b) :
    Calls Try.prog 3 #[v, v1, .bool there, .bool ahead] w fun e w' => e = .returned (.bool true) ∧ w.grownBy w' none := by
  obtain ⟨A, c0, rfl⟩ := h.form
  obtain ⟨A1, c1, rfl⟩ := h1.form
  have HV := Lib.hid h
  have HV1 := Lib.hid h1
  clear h h1
  by_cases hb1 : 4096 < a.length
  · go_enter Try.func3, Try.ntmps3
    go_wp2_with (go_at_call 4; refine (works6_any _).mono ?_; rintro e w1 ⟨rfl, g1⟩)
    go_ret
    exact ⟨rfl, g1⟩
  by_cases hb2 : 4096 < b.length
  · go_enter Try.func3, Try.ntmps3
    go_wp2_with (go_at_call 4; refine (works6_any _).mono ?_; rintro e w1 ⟨rfl, g1⟩)
    go_ret
    exact ⟨rfl, g1⟩
  have hl1 : a.length ≤ 4096 := by omega
  have hl2 : b.length ≤ 4096 := by omega
  have d1 : decide ((4096 : Int) < (a.length : Int)) = false := by simp; omega
  have d2 : decide ((4096 : Int) < (b.length : Int)) = false := by simp; omega
  clear hb1 hb2
  have HNEW := Lib.hid (DA.new 4096 w (by omega))
  obtain ⟨e1, e2, e3, F3⟩ := Fs.new.laid (n := fn) (b := a) fn_right (fun f hf => by cases hf) hl1 (by simp [Dk.used, newD])
  have s1 := (Sm.new 4096).create fn
  obtain ⟨S1, hS1⟩ : ∃ S1, S1 = ((newD 4096).create fn).1 := ⟨_, rfl⟩
  rw [← hS1] at e2 e3 F3 s1
  have s2 := s1.write fn (0 : Nat) a
  obtain ⟨S2, hS2⟩ : ∃ S2, S2 = (S1.write fn (0 : Nat) a).1 := ⟨_, rfl⟩
  rw [← hS2] at e3 F3 s2
  have s3 := s2.sync fn
  obtain ⟨S3, hS3⟩ : ∃ S3, S3 = (S2.sync fn).1 := ⟨_, rfl⟩
  rw [← hS3] at F3 s3
  have HC0 : Hid (∀ (wx : World) d o, DA w d o (newD 4096) wx → Calls Try.prog 6 #[.pointer (some ⟨d, 0, none⟩), .string ⟨fn.toArray⟩] wx fun e w' => e = .returned (.int .i64 0) ∧ DP w d o S1 wx w') := fun wx d o hx => by
    have := hx.create fn (by simp [fn]) (by simp [newD])
    rw [e1, ← hS1] at this
    exact this
  have HW0 : Hid (∀ (wx wy : World) d o bv, DA w d o S1 wx → wx.grownBy wy none → OwnB wy wx.heap.size bv a → Calls Try.prog 7 #[.pointer (some ⟨d, 0, none⟩), .string ⟨fn.toArray⟩, .int .i64 0, bv] wy fun e w' => e = .returned (.int .i64 0) ∧ DP w d o S2 wy w') := fun wx wy d o bv hx g hb => by
    have := hx.write g fn (by simp [fn]) (0 : Nat) (by omega) hb (by omega) (by have := s1.fl; omega) (by have := s1.nl; omega)
    rw [e2, ← hS2] at this
    exact this
  have HY0 : Hid (∀ (wx : World) d o, DA w d o S2 wx → Calls Try.prog 9 #[.pointer (some ⟨d, 0, none⟩), .string ⟨fn.toArray⟩] wx fun e w' => e = .returned (.int .i64 0) ∧ DP w d o S3 wx w') := fun wx d o hx => by
    have := hx.sync fn (by simp [fn])
    rw [e3, ← hS3] at this
    exact this
  have HF3 := Lib.hid F3
  have K3 := Lib.hid (s3.mono (a' := 2) (b' := 8192) (by omega) (by omega))
  have K3' := Lib.hid s3
  clear e1 e2 e3 F3 s1 s2 s3 hS1 hS2 hS3
  cases there
  · go_enter Try.func3, Try.ntmps3
    go_wp2_with fail
    refine HNEW.out.mono ?_
    rintro e w1 ⟨d, o1, rfl, h1⟩
    have HC1 := Lib.hid (HC0.out _ _ _ h1)
    clear h1 HC0
    go_wp2_with fail
    refine HC1.out.mono ?_
    rintro e w2 ⟨rfl, o2, h2, -⟩
    have HT := Lib.hid (twin_any _ a w2 (HV.out.ext h2.gr) (by omega))
    have H2 := Lib.hid h2
    clear h2 HC1
    go_wp2_with fail
    refine HT.out.mono ?_
    rintro e w3 ⟨⟨v3, rfl, b3⟩, g3⟩
    have HW2 := Lib.hid (HW0.out _ _ _ _ _ H2.out g3 b3)
    clear b3 g3 HT HW0
    go_wp2_with fail
    refine HW2.out.mono ?_
    rintro e w4 ⟨rfl, o4, h4, -⟩
    have HY4 := Lib.hid (HY0.out _ _ _ h4)
    clear h4 HW2 HY0 H2
    go_wp2_with fail
    refine HY4.out.mono ?_
    rintro e w5 ⟨rfl, o5, h5, -⟩
    have H5 := Lib.hid h5
    clear h5 HY4
    have HF : Hid (Fs S3 (fsT false a b)) := HF3.out
    obtain ⟨S, hSS⟩ : ∃ S, S = S3 := ⟨_, rfl⟩
    rw [← hSS] at HF H5 K3
    clear HF3 K3' hSS
    cases ahead
    · have HA0 := Lib.hid (H5.out.arm (2 : Nat) (by omega))
      rw [HF.out.arm 2] at HA0
      clear H5
      go_wp2_with fail
      refine HA0.out.mono ?_
      rintro e wa ⟨rfl, oa, ha, -⟩
      have HR := Lib.hid (ha.rename_ok (f := ⟨fn, a, a⟩) (n2 := tn) (by rw [arm2_begin]; exact HF.out.idle.2) fn_right tn_right HF.out.find_from fn_tn HF.out.loose (by have := K3.out.fl; show S.fs.length ≤ 1000000; omega))
      rw [arm2_begin] at HR
      clear ha HA0
      go_wp2_with fail
      refine HR.out.mono ?_
      rintro e wb ⟨rfl, ob, hb, -⟩
      have HS1 := Lib.hid (hb.sync tn (by simp [tn]))
      rw [ren_sync] at HS1
      clear hb HR
      go_wp2_with fail
      refine HS1.out.mono ?_
      rintro e wc ⟨rfl, oc, hc, -⟩
      have HE := Lib.hid (HF.out.ren_ends (by have := K3.out.nl; omega))
      obtain ⟨T, hT⟩ : ∃ T, T = (Dk.renamed S ⟨fn, a, a⟩ tn).off := ⟨_, rfl⟩
      rw [← hT] at HE hc
      have HON := Lib.hid (hc.on (kv := .slice none 0 0) (keep := []) HE.out.looseIn (by have := HE.out.nl; omega) (by rw [HE.out.fs]; have := HE.out.few; omega) HE.out.dead (Rd.nil _ _) (by simp))
      clear hT hc HS1 K3
      go_wp2_with fail
      refine HON.out.mono ?_
      rintro e wd ⟨rfl, ls, -, od, hd, -⟩
      rw [onT_nil] at hd
      have HL := Lib.hid HE.out.lit
      obtain ⟨U, hU⟩ : ∃ U, U = T.lit T.lastsOf := ⟨_, rfl⟩
      rw [← hU] at hd HL
      have HFI := Lib.hid (hd.files sortS (by rw [HL.out]; have := HE.out.few; omega) (by rw [HL.out]; simp))
      have GD := Lib.hid hd.gr
      clear hU hd HON
      go_wp2_with fail
      refine HFI.out.mono ?_
      rintro e we ⟨ve, l, rfl, he, te, ge⟩
      rw [HL.out] at te
      have hll : l.length ≤ 2 := by rw [te.len]; exact HE.out.few
      have HN := Lib.hid HE.out.nodup
      have HT := Lib.hid te
      have HRD := Lib.hid he
      have GE := Lib.hid (gr_none GD.out ge)
      clear he te ge HFI HE HL GD
      obtain ⟨Ae, ce, rfl⟩ := RdG.form HRD.out
      have HF1 := Lib.hid (fileOf_any _ l fn we HRD.out (by omega))
      go_wp2_with fail
      refine HF1.out.mono ?_
      rintro e wf ⟨hfe, gf⟩
      have HF2 := Lib.hid (fileOf_any _ l tn wf (HRD.out.ext gf) (by omega))
      unfold FoundIs at hfe
      rw [HT.out.no (n := fn) (fun f hf => by rw [List.mem_singleton.1 hf]; exact fun e => fn_tn e.symm)] at hfe
      dsimp only at hfe
      subst hfe
      have GF := Lib.hid gf
      clear gf HF1
      go_wp2_with fail
      refine HF2.out.mono ?_
      rintro e wg ⟨hge, gg⟩
      unfold FoundIs at hge
      obtain ⟨xg, e2, r2⟩ := HT.out.is HN.out (f := ⟨tn, a, a⟩) (by simp)
      dsimp only at e2 r2
      rw [e2] at hge
      dsimp only at hge
      subst hge
      have R2 := Lib.hid r2
      obtain ⟨Ag, cg, hxg⟩ := RdB.form r2
      rw [hxg] at R2 ⊢
      clear e2 r2 hxg
      have GG := Lib.hid (gr_none GF.out gg)
      clear gg HF2
      have be : (a == a) = true := beq_self_eq_true a
      have S2 := Lib.hid (fun wx (hx : we.grownBy wx none) => same6_any _ _ a a wx (R2.out.ext hx) (HV.out.ext (gr_none GE.out hx)) (by omega) (by omega))
      rw [be] at S2
      have hl9 : l.length = 1 := HT.out.len
      clear be R2 HRD HT hll
      rw [hl9]
      clear hl9
      go_wp2_with (first
        | (go_at_call 4; refine (works6_any _).mono ?_; rintro e wk ⟨rfl, gk⟩; have GK := Lib.hid (gr_none G1.out gk); clear gk)
        | (go_at_call 15; refine (S2.out _ GG.out).mono ?_; rintro e wh ⟨rfl, gh⟩; have G1 := Lib.hid (gr_none GG.out gh); clear gh S2 GG))
      go_ret
      exact ⟨rfl, gr_none GE.out GK.out⟩
    · have HA0 := Lib.hid (H5.out.arm (1 : Nat) (by omega))
      rw [HF.out.arm 1] at HA0
      clear H5
      go_wp2_with fail
      refine HA0.out.mono ?_
      rintro e wa ⟨rfl, oa, ha, -⟩
      have HR := Lib.hid (ha.rename_dead fn tn (by rw [arm1_begin]; rfl))
      rw [arm1_begin] at HR
      clear ha HA0
      go_wp2_with fail
      refine HR.out.mono ?_
      rintro e wb ⟨rfl, ob, hb, -⟩
      have HS1 := Lib.hid (hb.sync tn (by simp [tn]))
      rw [off_sync] at HS1
      clear hb HR
      go_wp2_with fail
      refine HS1.out.mono ?_
      rintro e wc ⟨rfl, oc, hc, -⟩
      have HE := Lib.hid (HF.out.off (fsT_same _ _ _) (fsT_names _ _ _) (by have := K3.out.nl; omega) (by simp [fsT]))
      obtain ⟨T, hT⟩ : ∃ T, T = S.off := ⟨_, rfl⟩
      rw [← hT] at HE hc
      have HON := Lib.hid (hc.on (kv := .slice none 0 0) (keep := []) HE.out.looseIn (by have := HE.out.nl; omega) (by rw [HE.out.fs]; have := HE.out.few; omega) HE.out.dead (Rd.nil _ _) (by simp))
      clear hT hc HS1 K3
      go_wp2_with fail
      refine HON.out.mono ?_
      rintro e wd ⟨rfl, ls, -, od, hd, -⟩
      rw [onT_nil] at hd
      have HL := Lib.hid HE.out.lit
      obtain ⟨U, hU⟩ : ∃ U, U = T.lit T.lastsOf := ⟨_, rfl⟩
      rw [← hU] at hd HL
      have HFI := Lib.hid (hd.files sortS (by rw [HL.out]; have := HE.out.few; omega) (by rw [HL.out]; simp [fsT]))
      have GD := Lib.hid hd.gr
      clear hU hd HON
      go_wp2_with fail
      refine HFI.out.mono ?_
      rintro e we ⟨ve, l, rfl, he, te, ge⟩
      rw [HL.out] at te
      have hll : l.length ≤ 2 := by rw [te.len]; exact HE.out.few
      have HN := Lib.hid HE.out.nodup
      have HT := Lib.hid te
      have HRD := Lib.hid he
      have GE := Lib.hid (gr_none GD.out ge)
      clear he te ge HFI HE HL GD
      obtain ⟨Ae, ce, rfl⟩ := RdG.form HRD.out
      have HF1 := Lib.hid (fileOf_any _ l fn we HRD.out (by omega))
      go_wp2_with fail
      refine HF1.out.mono ?_
      rintro e wf ⟨hfe, gf⟩
      have HF2 := Lib.hid (fileOf_any _ l tn wf (HRD.out.ext gf) (by omega))
      unfold FoundIs at hfe
      obtain ⟨xf, e1, r1⟩ := HT.out.is HN.out (f := ⟨fn, a, a⟩) (by simp [fsT])
      dsimp only at e1 r1
      rw [e1] at hfe
      dsimp only at hfe
      subst hfe
      have R1 := Lib.hid r1
      obtain ⟨Af, cf, hxf⟩ := RdB.form r1
      rw [hxf] at R1 ⊢
      clear e1 r1 hxf
      have GF := Lib.hid gf
      clear gf HF1
      go_wp2_with fail
      refine HF2.out.mono ?_
      rintro e wg ⟨hge, gg⟩
      unfold FoundIs at hge
      rw [HT.out.no (n := tn) (fun f hf => by rw [List.mem_singleton.1 hf]; exact fn_tn)] at hge
      dsimp only at hge
      subst hge
      have GG := Lib.hid (gr_none GF.out gg)
      clear gg HF2
      have be : (a == a) = true := beq_self_eq_true a
      have S1 := Lib.hid (fun wx (hx : we.grownBy wx none) => same6_any _ _ a a wx (R1.out.ext hx) (HV.out.ext (gr_none GE.out hx)) (by omega) (by omega))
      rw [be] at S1
      clear be R1 HT HRD
      go_wp2_with (first
        | (go_at_call 4; refine (works6_any _).mono ?_; rintro e wk ⟨rfl, gk⟩; have GK := Lib.hid (gr_none G1.out gk); clear gk)
        | (go_at_call 15; refine (S1.out _ GG.out).mono ?_; rintro e wh ⟨rfl, gh⟩; have G1 := Lib.hid (gr_none GG.out gh); clear gh S1 GG))
      go_ret
      exact ⟨rfl, gr_none GE.out GK.out⟩
  · obtain ⟨e4, e5, e6, F6⟩ := HF3.out.laid (n := tn) (b := b) tn_right (fun f hf => by rw [List.mem_singleton.1 hf]; exact fn_tn) hl2 (by unfold Dk.used; rw [HF3.out.fs]; simp [sectors]; omega)
    have s4 := K3'.out.create tn
    obtain ⟨S4, hS4⟩ : ∃ S4, S4 = (S3.create tn).1 := ⟨_, rfl⟩
    rw [← hS4] at e5 e6 F6 s4
    have s5 := s4.write tn (0 : Nat) b
    obtain ⟨S5, hS5⟩ : ∃ S5, S5 = (S4.write tn (0 : Nat) b).1 := ⟨_, rfl⟩
    rw [← hS5] at e6 F6 s5
    have s6 := s5.sync tn
    obtain ⟨S6, hS6⟩ : ∃ S6, S6 = (S5.sync tn).1 := ⟨_, rfl⟩
    rw [← hS6] at F6 s6
    have HC3 : Hid (∀ (wx : World) d o, DA w d o S3 wx → Calls Try.prog 6 #[.pointer (some ⟨d, 0, none⟩), .string ⟨tn.toArray⟩] wx fun e w' => e = .returned (.int .i64 0) ∧ DP w d o S4 wx w') := fun wx d o hx => by
      have := hx.create tn (by simp [tn]) (by have := K3.out.fl; omega)
      rw [e4, ← hS4] at this
      exact this
    have HW3 : Hid (∀ (wx wy : World) d o bv, DA w d o S4 wx → wx.grownBy wy none → OwnB wy wx.heap.size bv b → Calls Try.prog 7 #[.pointer (some ⟨d, 0, none⟩), .string ⟨tn.toArray⟩, .int .i64 0, bv] wy fun e w' => e = .returned (.int .i64 0) ∧ DP w d o S5 wy w') := fun wx wy d o bv hx g hb => by
      have := hx.write g tn (by simp [tn]) (0 : Nat) (by omega) hb (by omega) (by have := s4.fl; omega) (by have := s4.nl; omega)
      rw [e5, ← hS5] at this
      exact this
    have HY3 : Hid (∀ (wx : World) d o, DA w d o S5 wx → Calls Try.prog 9 #[.pointer (some ⟨d, 0, none⟩), .string ⟨tn.toArray⟩] wx fun e w' => e = .returned (.int .i64 0) ∧ DP w d o S6 wx w') := fun wx d o hx => by
      have := hx.sync tn (by simp [tn])
      rw [e6, ← hS6] at this
      exact this
    have HF : Hid (Fs S6 (fsT true a b)) := F6
    have K6 := Lib.hid (s6.mono (a' := 2) (b' := 8192) (by omega) (by omega))
    clear e4 e5 e6 F6 s4 s5 s6 hS4 hS5 hS6 HF3
    go_enter Try.func3, Try.ntmps3
    go_wp2_with fail
    refine HNEW.out.mono ?_
    rintro e w1 ⟨d, o1, rfl, h1⟩
    have HC1 := Lib.hid (HC0.out _ _ _ h1)
    clear h1 HC0
    go_wp2_with fail
    refine HC1.out.mono ?_
    rintro e w2 ⟨rfl, o2, h2, -⟩
    have HT := Lib.hid (twin_any _ a w2 (HV.out.ext h2.gr) (by omega))
    have H2 := Lib.hid h2
    clear h2 HC1
    go_wp2_with fail
    refine HT.out.mono ?_
    rintro e w3 ⟨⟨v3, rfl, b3⟩, g3⟩
    have HW2 := Lib.hid (HW0.out _ _ _ _ _ H2.out g3 b3)
    clear b3 g3 HT HW0
    go_wp2_with fail
    refine HW2.out.mono ?_
    rintro e w4 ⟨rfl, o4, h4, -⟩
    have HY4 := Lib.hid (HY0.out _ _ _ h4)
    clear h4 HW2 HY0 H2
    go_wp2_with fail
    refine HY4.out.mono ?_
    rintro e w5 ⟨rfl, o5, h5, -⟩
    have H5 := Lib.hid h5
    clear h5 HY4
    have HC4 := Lib.hid (HC3.out _ _ _ H5.out)
    clear HC3
    go_wp2_with fail
    refine HC4.out.mono ?_
    rintro e w6 ⟨rfl, o6, h6, -⟩
    have HT6 := Lib.hid (twin_any _ b w6 (HV1.out.ext h6.gr) (by omega))
    have H6 := Lib.hid h6
    clear h6 HC4
    go_wp2_with fail
    refine HT6.out.mono ?_
    rintro e w7 ⟨⟨v7, rfl, b7⟩, g7⟩
    have HW6 := Lib.hid (HW3.out _ _ _ _ _ H6.out g7 b7)
    clear b7 g7 HT6 HW3
    go_wp2_with fail
    refine HW6.out.mono ?_
    rintro e w8 ⟨rfl, o8, h8, -⟩
    have HY8 := Lib.hid (HY3.out _ _ _ h8)
    clear h8 HW6 HY3 H5 H6
    go_wp2_with fail
    refine HY8.out.mono ?_
    rintro e w9 ⟨rfl, o9, h9, -⟩
    have H5 := Lib.hid h9
    clear h9 HY8 K3 K3'
    have K3 := K6
    clear K6
    obtain ⟨S, hSS⟩ : ∃ S, S = S6 := ⟨_, rfl⟩
    rw [← hSS] at HF H5 K3
    clear hSS
    cases ahead
    · have HA0 := Lib.hid (H5.out.arm (2 : Nat) (by omega))
      rw [HF.out.arm 2] at HA0
      clear H5
      go_wp2_with fail
      refine HA0.out.mono ?_
      rintro e wa ⟨rfl, oa, ha, -⟩
      have HR := Lib.hid (ha.rename_ok (f := ⟨fn, a, a⟩) (n2 := tn) (by rw [arm2_begin]; exact HF.out.idle.2) fn_right tn_right HF.out.find_from fn_tn HF.out.loose (by have := K3.out.fl; show S.fs.length ≤ 1000000; omega))
      rw [arm2_begin] at HR
      clear ha HA0
      go_wp2_with fail
      refine HR.out.mono ?_
      rintro e wb ⟨rfl, ob, hb, -⟩
      have HS1 := Lib.hid (hb.sync tn (by simp [tn]))
      rw [ren_sync] at HS1
      clear hb HR
      go_wp2_with fail
      refine HS1.out.mono ?_
      rintro e wc ⟨rfl, oc, hc, -⟩
      have HE := Lib.hid (HF.out.ren_ends (by have := K3.out.nl; omega))
      obtain ⟨T, hT⟩ : ∃ T, T = (Dk.renamed S ⟨fn, a, a⟩ tn).off := ⟨_, rfl⟩
      rw [← hT] at HE hc
      have HON := Lib.hid (hc.on (kv := .slice none 0 0) (keep := []) HE.out.looseIn (by have := HE.out.nl; omega) (by rw [HE.out.fs]; have := HE.out.few; omega) HE.out.dead (Rd.nil _ _) (by simp))
      clear hT hc HS1 K3
      go_wp2_with fail
      refine HON.out.mono ?_
      rintro e wd ⟨rfl, ls, -, od, hd, -⟩
      rw [onT_nil] at hd
      have HL := Lib.hid HE.out.lit
      obtain ⟨U, hU⟩ : ∃ U, U = T.lit T.lastsOf := ⟨_, rfl⟩
      rw [← hU] at hd HL
      have HFI := Lib.hid (hd.files sortS (by rw [HL.out]; have := HE.out.few; omega) (by rw [HL.out]; simp))
      have GD := Lib.hid hd.gr
      clear hU hd HON
      go_wp2_with fail
      refine HFI.out.mono ?_
      rintro e we ⟨ve, l, rfl, he, te, ge⟩
      rw [HL.out] at te
      have hll : l.length ≤ 2 := by rw [te.len]; exact HE.out.few
      have HN := Lib.hid HE.out.nodup
      have HT := Lib.hid te
      have HRD := Lib.hid he
      have GE := Lib.hid (gr_none GD.out ge)
      clear he te ge HFI HE HL GD
      obtain ⟨Ae, ce, rfl⟩ := RdG.form HRD.out
      have HF1 := Lib.hid (fileOf_any _ l fn we HRD.out (by omega))
      go_wp2_with fail
      refine HF1.out.mono ?_
      rintro e wf ⟨hfe, gf⟩
      have HF2 := Lib.hid (fileOf_any _ l tn wf (HRD.out.ext gf) (by omega))
      unfold FoundIs at hfe
      rw [HT.out.no (n := fn) (fun f hf => by rw [List.mem_singleton.1 hf]; exact fun e => fn_tn e.symm)] at hfe
      dsimp only at hfe
      subst hfe
      have GF := Lib.hid gf
      clear gf HF1
      go_wp2_with fail
      refine HF2.out.mono ?_
      rintro e wg ⟨hge, gg⟩
      unfold FoundIs at hge
      obtain ⟨xg, e2, r2⟩ := HT.out.is HN.out (f := ⟨tn, a, a⟩) (by simp)
      dsimp only at e2 r2
      rw [e2] at hge
      dsimp only at hge
      subst hge
      have R2 := Lib.hid r2
      obtain ⟨Ag, cg, hxg⟩ := RdB.form r2
      rw [hxg] at R2 ⊢
      clear e2 r2 hxg
      have GG := Lib.hid (gr_none GF.out gg)
      clear gg HF2
      have be : (a == a) = true := beq_self_eq_true a
      have S2 := Lib.hid (fun wx (hx : we.grownBy wx none) => same6_any _ _ a a wx (R2.out.ext hx) (HV.out.ext (gr_none GE.out hx)) (by omega) (by omega))
      rw [be] at S2
      have hl9 : l.length = 1 := HT.out.len
      clear be R2 HRD HT hll
      rw [hl9]
      clear hl9
      go_wp2_with (first
        | (go_at_call 4; refine (works6_any _).mono ?_; rintro e wk ⟨rfl, gk⟩; have GK := Lib.hid (gr_none G1.out gk); clear gk)
        | (go_at_call 15; refine (S2.out _ GG.out).mono ?_; rintro e wh ⟨rfl, gh⟩; have G1 := Lib.hid (gr_none GG.out gh); clear gh S2 GG))
      go_ret
      exact ⟨rfl, gr_none GE.out GK.out⟩
    · have HA0 := Lib.hid (H5.out.arm (1 : Nat) (by omega))
      rw [HF.out.arm 1] at HA0
      clear H5
      go_wp2_with fail
      refine HA0.out.mono ?_
      rintro e wa ⟨rfl, oa, ha, -⟩
      have HR := Lib.hid (ha.rename_dead fn tn (by rw [arm1_begin]; rfl))
      rw [arm1_begin] at HR
      clear ha HA0
      go_wp2_with fail
      refine HR.out.mono ?_
      rintro e wb ⟨rfl, ob, hb, -⟩
      have HS1 := Lib.hid (hb.sync tn (by simp [tn]))
      rw [off_sync] at HS1
      clear hb HR
      go_wp2_with fail
      refine HS1.out.mono ?_
      rintro e wc ⟨rfl, oc, hc, -⟩
      have HE := Lib.hid (HF.out.off (fsT_same _ _ _) (fsT_names _ _ _) (by have := K3.out.nl; omega) (by simp [fsT]))
      obtain ⟨T, hT⟩ : ∃ T, T = S.off := ⟨_, rfl⟩
      rw [← hT] at HE hc
      have HON := Lib.hid (hc.on (kv := .slice none 0 0) (keep := []) HE.out.looseIn (by have := HE.out.nl; omega) (by rw [HE.out.fs]; have := HE.out.few; omega) HE.out.dead (Rd.nil _ _) (by simp))
      clear hT hc HS1 K3
      go_wp2_with fail
      refine HON.out.mono ?_
      rintro e wd ⟨rfl, ls, -, od, hd, -⟩
      rw [onT_nil] at hd
      have HL := Lib.hid HE.out.lit
      obtain ⟨U, hU⟩ : ∃ U, U = T.lit T.lastsOf := ⟨_, rfl⟩
      rw [← hU] at hd HL
      have HFI := Lib.hid (hd.files sortS (by rw [HL.out]; have := HE.out.few; omega) (by rw [HL.out]; simp [fsT]))
      have GD := Lib.hid hd.gr
      clear hU hd HON
      go_wp2_with fail
      refine HFI.out.mono ?_
      rintro e we ⟨ve, l, rfl, he, te, ge⟩
      rw [HL.out] at te
      have hll : l.length ≤ 2 := by rw [te.len]; exact HE.out.few
      have HN := Lib.hid HE.out.nodup
      have HT := Lib.hid te
      have HRD := Lib.hid he
      have GE := Lib.hid (gr_none GD.out ge)
      clear he te ge HFI HE HL GD
      obtain ⟨Ae, ce, rfl⟩ := RdG.form HRD.out
      have HF1 := Lib.hid (fileOf_any _ l fn we HRD.out (by omega))
      go_wp2_with fail
      refine HF1.out.mono ?_
      rintro e wf ⟨hfe, gf⟩
      have HF2 := Lib.hid (fileOf_any _ l tn wf (HRD.out.ext gf) (by omega))
      unfold FoundIs at hfe
      obtain ⟨xf, e1, r1⟩ := HT.out.is HN.out (f := ⟨fn, a, a⟩) (by simp [fsT])
      dsimp only at e1 r1
      rw [e1] at hfe
      dsimp only at hfe
      subst hfe
      have R1 := Lib.hid r1
      obtain ⟨Af, cf, hxf⟩ := RdB.form r1
      rw [hxf] at R1 ⊢
      clear e1 r1 hxf
      have GF := Lib.hid gf
      clear gf HF1
      go_wp2_with fail
      refine HF2.out.mono ?_
      rintro e wg ⟨hge, gg⟩
      unfold FoundIs at hge
      obtain ⟨xg, e2, r2⟩ := HT.out.is HN.out (f := ⟨tn, b, b⟩) (by simp [fsT])
      dsimp only at e2 r2
      rw [e2] at hge
      dsimp only at hge
      subst hge
      have R2 := Lib.hid r2
      obtain ⟨Ag, cg, hxg⟩ := RdB.form r2
      rw [hxg] at R2 ⊢
      clear e2 r2 hxg
      have GG := Lib.hid (gr_none GF.out gg)
      clear gg HF2
      have be : (a == a) = true := beq_self_eq_true a
      have be2 : (b == b) = true := beq_self_eq_true b
      have S1 := Lib.hid (fun wx (hx : we.grownBy wx none) => same6_any _ _ a a wx (R1.out.ext hx) (HV.out.ext (gr_none GE.out hx)) (by omega) (by omega))
      have S2 := Lib.hid (fun wx (hx : we.grownBy wx none) => same6_any _ _ b b wx (R2.out.ext hx) (HV1.out.ext (gr_none GE.out hx)) (by omega) (by omega))
      rw [be] at S1
      rw [be2] at S2
      clear be be2 R1 R2 HT HRD
      go_wp2_with (first
        | (go_at_call 4; refine (works6_any _).mono ?_; rintro e wk ⟨rfl, gk⟩; have GK := Lib.hid (gr_none G2.out gk); clear gk)
        | (go_at_call 15; refine (S1.out _ GG.out).mono ?_; rintro e wh ⟨rfl, gh⟩; have G1 := Lib.hid (gr_none GG.out gh); clear gh S1 GG)
        | (go_at_call 15; refine (S2.out _ G1.out).mono ?_; rintro e wi ⟨rfl, gi⟩; have G2 := Lib.hid (gr_none G1.out gi); clear gi S2 G1))
      go_ret
      exact ⟨rfl, gr_none GE.out GK.out⟩
end Go.Proofs.Ythkajgangnmbdaa
