/-
  PagefileTorn: the walk.
-/
import Derived.Test.YtfbbbbekialpnaaPt1
import Derived.Test.YtfbbbbekialpnaaInt
import Derived.Test.YtfbbbbekialpnaaKpd
import Derived.Deep.RegionHeld3
namespace Go.Proofs.Ytfbbbbekialpnaa
open Go.RowKit
set_option maxRecDepth 100000
set_option maxHeartbeats 400000

def cntK (keep : List Int) (i : Nat) : Nat := ((List.range i).filter fun (j : Nat) => memI keep (j : Int)).length
theorem cntK_succ (keep : List Int) (i : Nat) : cntK keep (i + 1) = cntK keep i + (if memI keep (i : Int) = true then 1 else 0) := by
  unfold cntK
  rw [List.range_succ, List.filter_append, List.length_append]
  congr 1
  by_cases h : memI keep (i : Int) = true
  · simp [h]
  · simp [h]
theorem cntK_le (keep : List Int) (i : Nat) : cntK keep i ≤ i := by
  unfold cntK
  exact Nat.le_trans (List.length_filter_le _ _) (by simp)
theorem cntK_all {keep : List Int} {n : Nat} (h : cntK keep n = n) : ∀ j, j < n → memI keep (j : Int) = true := by
  induction n with
  | zero => intro j hj; omega
  | succ n ih =>
    rw [cntK_succ] at h
    have hle := cntK_le keep n
    by_cases hm : memI keep (n : Int) = true
    · rw [if_pos hm] at h
      intro j hj
      rcases Nat.lt_succ_iff_lt_or_eq.1 hj with h2 | h2
      · exact ih (by omega) j h2
      · rw [h2]; exact hm
    · rw [if_neg hm] at h; omega
theorem cntK_none {keep : List Int} {n : Nat} (h : cntK keep n = 0) : ∀ j, j < n → memI keep (j : Int) = false := by
  induction n with
  | zero => intro j hj; omega
  | succ n ih =>
    rw [cntK_succ] at h
    by_cases hm : memI keep (n : Int) = true
    · rw [if_pos hm] at h; omega
    · intro j hj
      rcases Nat.lt_succ_iff_lt_or_eq.1 hj with h2 | h2
      · exact ih (by omega) j h2
      · rw [h2]; simpa using hm
theorem eqBt {v v' : Value} {l : List UInt8} {w : World} (h : RdB w v l) (h' : RdB w v' l) :
    Calls Try.prog 42 #[v, v'] w fun e w' => e = .returned (.bool true) ∧ w = w' := by
  have := eqBytes_any v v' l l w h h'
  rwa [show (l == l) = true from by simp] at this
/-- behind the loss of power. -/
structure TornD (w : World) (d pf n k : Nat) (c0 F P : List UInt8) (g : Nat → List UInt8) (keep : List Int) (ls : List Sec) (wr : World) : Prop where
  ex : ∃ (o : Own1) (S : Dk) (c2 : List UInt8), DA w d o S wr ∧ PfR wr w.heap.size o d pf an ∧ One S an F F 4096 ∧ Torn c0 c2 F P n k keep ls ∧ Holds c0 (crcS an) n g
theorem TornD.ext {w : World} {d pf n k : Nat} {c0 F P : List UInt8} {g : Nat → List UInt8} {keep : List Int} {ls : List Sec} {wr w' : World} (h : TornD w d pf n k c0 F P g keep ls wr) (hg : wr.grownBy w' none) : TornD w d pf n k c0 F P g keep ls w' := by
  obtain ⟨o, S, c2, h1, h2, h3, h4, h5⟩ := h.ex
  exact ⟨o, S, c2, h1.ext hg, h2.ext hg, h3, h4, h5⟩
theorem size_one {S : Dk} {F la : List UInt8} {q : Nat} (h : One S an F la q) : S.size an = (F.length, 0) := h.size an_right
theorem pread_one {S : Dk} {F la : List UInt8} {q : Nat} (h : One S an F la q) {i : Nat} (hi : 256 * (i + 1) ≤ F.length) : S.pread an i = match pagO (pgA F i) (crcS an) i with | none => ([], 7) | some b => (b, 0) := by
  unfold Dk.pread
  rw [size_one h, if_neg (by omega), if_neg (by simp), if_neg (by simp; omega), Int.toNat_natCast]
  have := h.read an_right (i * 256) 256
  rw [show ((i * 256 : Nat) : Int) = (i : Int) * 256 from by push_cast; rfl, show ((256 : Nat) : Int) = 256 from rfl] at this
  rw [this]
  show (match pagO ((F.drop (i * 256)).take 256) (crcS an) i with | none => (([] : List UInt8), 7) | some b => (b, 0)) = _
  rw [Nat.mul_comm i]
  rfl
set_option maxHeartbeats 8000000 in
theorem ptorn_any (v0 : Value) (ll : List (List UInt8)) (k : Int) (hk : -9223372036854775808 ≤ k ∧ k ≤ 9223372036854775807) (v2 : Value) (b : List UInt8) (v3 : Value) (keep : List Int) (w : World) (h0 : RdBB w v0 ll) (h2 : RdB w v2 b) (h3 : RdI w v3 keep) :
    Calls Try.prog 6 #[v0, .int .i64 k, v2, v3] w fun e w' => e = .returned (.bool true) ∧ w.grownBy w' none := by
  obtain ⟨A, c0, rfl⟩ := h0.form
  obtain ⟨A2, c2, rfl⟩ := h2.form
  obtain ⟨A3, c3, rfl⟩ := h3.form
  have H0 := Lib.hid h0
  have H2 := Lib.hid h2
  have H3 := Lib.hid h3
  clear h0 h2 h3
  by_cases hb1 : 20 < ll.length
  · go_enter Try.func6, Try.ntmps6
    go_wp2_with (go_at_call 35; refine (works_any _).mono ?_; rintro e w1 ⟨rfl, g1⟩)
    go_ret
    exact ⟨rfl, g1⟩
  by_cases hb2 : 240 < b.length
  · go_enter Try.func6, Try.ntmps6
    go_wp2_with (go_at_call 35; refine (works_any _).mono ?_; rintro e w1 ⟨rfl, g1⟩)
    go_ret
    exact ⟨rfl, g1⟩
  by_cases hb3 : k < 0
  · go_enter Try.func6, Try.ntmps6
    go_wp2_with (go_at_call 35; refine (works_any _).mono ?_; rintro e w1 ⟨rfl, g1⟩)
    go_ret
    exact ⟨rfl, g1⟩
  obtain ⟨k, rfl⟩ := Int.eq_ofNat_of_zero_le (show 0 ≤ k by omega)
  by_cases hb4 : ll.length < k
  · go_enter Try.func6, Try.ntmps6
    go_wp2_with (go_at_call 35; refine (works_any _).mono ?_; rintro e w1 ⟨rfl, g1⟩)
    go_ret
    exact ⟨rfl, g1⟩
  by_cases hb5 : 1000 < keep.length
  · go_enter Try.func6, Try.ntmps6
    go_wp2_with (go_at_call 35; refine (works_any _).mono ?_; rintro e w1 ⟨rfl, g1⟩)
    go_ret
    exact ⟨rfl, g1⟩
  have hl1 : ll.length ≤ 20 := by omega
  have hl2 : b.length ≤ 240 := by omega
  have hl3 : k ≤ ll.length := by omega
  have hl4 : keep.length ≤ 1000 := by omega
  have d1 : decide ((20 : Int) < (ll.length : Int)) = false := by simp; omega
  have d2 : decide ((240 : Int) < (b.length : Int)) = false := by simp; omega
  have d4 : decide ((ll.length : Int) < (k : Int)) = false := by simp; omega
  have d5 : decide ((1000 : Int) < (keep.length : Int)) = false := by simp; omega
  clear hb1 hb2 hb3 hb4 hb5 hk
  obtain ⟨g, off, hA, hc, hcm, hcells⟩ := H0.out.at_
  have HA := Lib.hid hA
  have HC := Lib.hid hcells
  clear hA hcells hcm
  have HLD := Lib.hid (laid2_any _ ll w H0.out (by omega))
  go_enter Try.func6, Try.ntmps6
  go_wp2_with fail
  refine HLD.out.mono ?_
  rintro e w1 ⟨g1, rfl | ⟨hsm, d, pf, rfl, p1⟩⟩
  · have G1 := Lib.hid g1
    clear g1 HLD
    go_wp2_with (go_at_call 35; refine (works_any _).mono ?_; rintro e w2 ⟨rfl, g2⟩)
    go_ret
    exact ⟨rfl, gr_none G1.out g2⟩
  obtain ⟨o1, S1, x0, hd1, hp1, ho1, hh, hlo, hnl⟩ := p1
  have HSM := Lib.hid hsm
  have HD1 := Lib.hid hd1
  have HP1 := Lib.hid hp1
  have HO1 := Lib.hid ho1
  have HH := Lib.hid hh
  have HLO := Lib.hid hlo
  have HNL := Lib.hid hnl
  have hx0 : Hid (x0.length = 256 * ll.length) := hh.len
  have HR1 := Lib.hid (hd1.read an (by simp) ((256 * k : Nat) : Int) ((256 : Nat) : Int) (by omega) (by omega))
  rw [ho1.read an_right] at HR1
  have e256 : ((256 * k : Nat) : Int) = 256 * (k : Int) := by push_cast; rfl
  rw [e256] at HR1
  clear g1 HLD hsm hd1 hp1 ho1 hh hlo hnl e256
  go_wp2_with fail
  refine HR1.out.mono ?_
  rintro e w2 ⟨⟨v2, rfl, b2⟩, g2⟩
  obtain ⟨A4, c4, rfl⟩ := b2.rd.form
  have KW2 := Lib.hid (Kp.new HD1.out b2 (by omega))
  have HD2 := Lib.hid (HD1.out.ext g2)
  have HP2 := Lib.hid (HP1.out.ext g2)
  obtain ⟨was, hwas⟩ : ∃ was, was = (x0.drop (256 * k)).take 256 := ⟨_, rfl⟩
  rw [← hwas] at KW2 ⊢
  have HWAS := Lib.hid hwas
  have HCP := Lib.hid (copyBytes_any _ _ w2 (H2.out.ext HD2.out.gr) (by omega))
  clear b2 g2 hwas HR1 HD1 HP1
  go_wp2_with fail
  refine HCP.out.mono ?_
  rintro e w3 ⟨v3, rfl, b3, g3⟩
  have KW3 := Lib.hid (KW2.out.ext g3)
  have HD3 := Lib.hid (HD2.out.ext g3)
  have HP3 := Lib.hid (HP2.out.ext g3)
  have hpw := HD3.out.pwrite HP3.out (k : Int) (by omega) b3.rd (by omega) (by rw [HO1.out.fl]; omega) (by have := HNL.out; omega)
  rw [pwrite_eq HO1.out.idle HO1.out.q HO1.out.fs hx0.out (n := ll.length) (by omega) (by omega) (by omega) hl2] at hpw
  have HPW := Lib.hid hpw
  obtain ⟨S4, hS4⟩ : ∃ S4, S4 = S1.wrote an (k * 256) (pagB (crcS an) k b) := ⟨_, rfl⟩
  rw [← hS4] at HPW
  have HS4 := Lib.hid hS4
  clear b3 g3 hpw HCP KW2 HD2 HP2 hS4
  go_wp2_with fail
  refine HPW.out.mono ?_
  rintro e w4 ⟨rfl, o4, hd4, ch4⟩
  have HD4 := Lib.hid hd4
  have HP4 := Lib.hid (HP3.out.ch ch4)
  have KW4 := Lib.hid (KW3.out.ch ch4 (by omega))
  obtain ⟨ho4, hli4, hlast, htorn⟩ := torn_page (b := b) HO1.out HH.out HLO.out hl3 (by omega) hl2
  obtain ⟨P, hP⟩ : ∃ P, P = pagB (crcS an) k b := ⟨_, rfl⟩
  have hp256 : P.length = 256 := by rw [hP]; exact pagB_len hl2
  rw [← HS4.out, ← hP] at ho4 htorn
  rw [← HS4.out] at hli4
  rw [← hP] at hlast
  have HPO : Hid (pagO P (crcS an) k = some b) := by
    show _ = _
    rw [hP, pagO_made (tag := crcS an) (k := k) (m := k) hl2 (crcE_lt _ _) (by omega), if_pos rfl]
  have hr4 := ho4.read an_right (256 * k) 256
  rw [hlast] at hr4
  have hnl4 : Hid (S4.nl ≤ 6000) := by
    show S4.nl ≤ 6000
    rw [HS4.out]
    show S1.nl + (pagB (crcS an) k b).length ≤ 6000
    rw [pagB_len hl2]; have := HNL.out; omega
  have HR4 := Lib.hid (hd4.read an (by simp) ((256 * k : Nat) : Int) ((256 : Nat) : Int) (by omega) (by omega))
  rw [hr4] at HR4
  have e256 : ((256 * k : Nat) : Int) = 256 * (k : Int) := by push_cast; rfl
  rw [e256] at HR4
  have HO4 := Lib.hid ho4
  have HLI4 := Lib.hid hli4
  have HTO := Lib.hid htorn
  have HP256 := Lib.hid hp256
  clear hd4 ch4 HPW KW3 HD3 HP3 ho4 hli4 htorn hr4 hlast e256 hP HS4 HO1 HLO HNL hp256
  go_wp2_with fail
  refine HR4.out.mono ?_
  rintro e w5 ⟨⟨v5, rfl, b5⟩, g5⟩
  obtain ⟨A5, c5, rfl⟩ := b5.rd.form
  have KL5 := Lib.hid (Kp.new HD4.out b5 (by omega))
  have HD5 := Lib.hid (HD4.out.ext g5)
  have HP5 := Lib.hid (HP4.out.ext g5)
  have KW5 := Lib.hid (KW4.out.ext g5)
  have HL5 := Lib.hid (HD5.out.loose HLI4.out (by have := hnl4.out; omega))
  clear b5 g5 HR4 HD4 HP4 KW4
  go_wp2_with fail
  refine HL5.out.mono ?_
  rintro e w6 ⟨v6, ls, rfl, b6, hls, hll, g6⟩
  have hlsn : ls.length ≤ 6000 := by have := hnl4.out; omega
  obtain ⟨A6, c6, rfl⟩ := OwnP.form b6
  have KL6 := Lib.hid (KL5.out.ext g6)
  have HD6 := Lib.hid (HD5.out.ext g6)
  have HP6 := Lib.hid (HP5.out.ext g6)
  have KW6 := Lib.hid (KW5.out.ext g6)
  have HLS := Lib.hid hls
  have HT := Lib.hid (HTO.out ls keep hls)
  have HA6 := Lib.hid (HD6.out.arm (1 : Nat) (by omega))
  rw [HO4.out.arm 1] at HA6
  clear b6 g6 hls hll HL5 KL5 HD5 HP5 KW5 HTO
  go_wp2_with fail
  refine HA6.out.mono ?_
  rintro e w7 ⟨rfl, o7, hd7, ch7⟩
  have KL7 := Lib.hid (KL6.out.ch ch7 (by omega))
  have KW7 := Lib.hid (KW6.out.ch ch7 (by omega))
  have HP7 := Lib.hid (HP6.out.ch ch7)
  have HS7 := Lib.hid (hd7.psync HP7.out)
  rw [sync_off] at HS7
  clear hd7 ch7 HA6 HD6 HP6 KL6 KW6
  go_wp2_with fail
  refine HS7.out.mono ?_
  rintro e w8 ⟨rfl, o8, hd8, ch8⟩
  have HD8 := Lib.hid hd8
  have KL8 := Lib.hid (KL7.out.ch ch8 (by omega))
  have KW8 := Lib.hid (KW7.out.ch ch8 (by omega))
  have HP8 := Lib.hid (HP7.out.ch ch8)
  have HK8 := Lib.hid (H3.out.ext hd8.gr)
  clear hd8 ch8 HS7 HP7 KL7 KW7
  go_wp2_with (at_builtin; refine wp_appI (m := keep) (l := []) rfl (.tmp 94) (.tmp 95) rfl rfl (own_emptyI _ _ (Nat.le_refl _)) rfl (HK8.out.ext (gr_alloc _ _ none)) (by simp; omega) (by simp) ?_; rintro v9 w9 o9 g9 -)
  rw [List.nil_append] at o9
  have hg9 : w8.grownBy w9 none := gr_trans (gr_alloc _ _ _) g9 (.inr (fun g e => by cases e; exact Nat.le_refl _))
  have HD9 := Lib.hid (HD8.out.ext hg9)
  have KL9 := Lib.hid (KL8.out.ext hg9)
  have KW9 := Lib.hid (KW8.out.ext hg9)
  have HP9 := Lib.hid (HP8.out.ext hg9)
  have HON := Lib.hid (HD9.out.on (S := S4.off) HLI4.out (by have := hnl4.out; show S4.nl ≤ 1000000000; omega) (by show S4.fs.length ≤ 1000000; rw [HO4.out.fl]; omega) rfl (keep := keep) (Own.rd o9) (by omega))
  clear o9 g9 hg9 HD8 KL8 KW8 HP8 HK8
  go_wp2_with fail
  refine HON.out.mono ?_
  rintro e w10 ⟨rfl, ls', hls', o10, hd10, ch10⟩
  obtain rfl := LsIs.uniq (S := S4.off) (S' := S4) hls' HLS.out rfl
  rw [onT_off] at hd10
  have ho10 := HO4.out.lit (onT S4 keep ls' ls'.length)
  obtain ⟨F, hF⟩ : ∃ F, F = onT S4 keep ls' ls'.length an := ⟨_, rfl⟩
  rw [← hF] at ho10 HT
  have HT10 : Hid (TornD w d pf ll.length k x0 F P (fun i => ll.getD i []) keep ls' w10) := ⟨o10, _, _, hd10, HP9.out.ch ch10, ho10, HT.out, HH.out⟩
  have HWL := Lib.hid (KW9.out.ch ch10 (by omega)).own.rd
  have HLL := Lib.hid (KL9.out.ch ch10 (by omega)).own.rd
  have hFlen : Hid (x0.length ≤ F.length ∧ F.length ≤ 6000) := ⟨HT.out.tr.ge, by have h1 := HT.out.tr.le; have h2 := HT.out.lc2; omega⟩
  have hlsp : 1 ≤ ls'.length := by
    obtain ⟨x, hx, -⟩ := HT.out.lss (4 * k) (by omega) (by omega)
    exact List.length_pos_of_mem hx
  have hpg : Hid (Calls Try.prog 40 #[.pointer (some ⟨pf, 0, none⟩)] w10 fun e w' => e = .returned (.tuple #[.int .i64 (F.length / 256 : Nat), .int .i64 0]) ∧ w10.grownBy w' none) := by
    have := hd10.ppages (HP9.out.ch ch10)
    unfold Dk.ppages at this
    rw [size_one ho10] at this
    exact this
  have hn2 : ll.length ≤ F.length / 256 := by have h1 := hFlen.out; have h2 := hx0.out; omega
  have hn3 : F.length / 256 ≤ 6000 := by have h1 := hFlen.out; omega
  obtain ⟨np, hnp⟩ : ∃ np, np = F.length / 256 := ⟨_, rfl⟩
  rw [← hnp] at hpg hn2 hn3
  have hd9 : decide ((np : Int) < (ll.length : Int)) = false := by simp; omega
  have hd9n : decide (np < ll.length) = false := by simp; omega
  have hq256 : (P.length : Int) = 256 := by have := HP256.out; omega
  have hne256 : ((P.length : Int) != 256) = false := by rw [hq256]; rfl
  clear hls' hd10 ch10 ho10 HON HD9 KL9 KW9 HP9 HO4 HLI4 HLS hnl4 hnp hF HT
  go_wp2_with fail
  refine hpg.out.mono ?_
  rintro e w11 ⟨rfl, g11⟩
  have HT11 : Hid (TornD w d pf ll.length k x0 F P (fun i => ll.getD i []) keep ls' w11) := HT10.out.ext g11
  have HWL11 := Lib.hid (HWL.out.ext g11)
  have HLL11 := Lib.hid (HLL.out.ext g11)
  clear g11 hpg HT10 HWL HLL hq256 hne256
  go_wp2
  go_loopw [23, 24, 25] (fun i _ _ wr => ∃ j : Nat, j ≤ ll.length ∧ i = .int .i64 j ∧ Hid (TornD w d pf ll.length k x0 F P (fun i => ll.getD i []) keep ls' wr) ∧ w11.grownBy wr none) (fun i _ _ _ => ll.length - (intOf i).toNat)
  case atStart => exact ⟨0, by omega, rfl, HT11.out, gr_refl _ _⟩
  case round =>
    obtain ⟨j, hj, rfl, hti, hg⟩ := hrel
    have HG := Lib.hid hg
    clear hg
    by_cases hlt : j < ll.length
    · obtain ⟨o, S, x2, hd, hp, ho, ht, hh⟩ := hti.out.ex
      have HRD := Lib.hid (hd.pread hp (j : Int) (by omega))
      by_cases hjk : j = k
      · obtain ⟨X, hX⟩ : ∃ X, X = S.pread an (j : Int) := ⟨_, rfl⟩
        rw [← hX] at HRD
        obtain ⟨xb, xe⟩ := X
        have hjk2 : ((j : Int) != (k : Int)) = false := by rw [bne_eq_false_iff_eq]; omega
        clear hd hp ho ht hh hX hjk
        go_wp2_with fail
        refine HRD.out.mono ?_
        rintro e w12 ⟨⟨v12, rfl, b12⟩, g12⟩
        have HT12 : Hid (TornD w d pf ll.length k x0 F P (fun i => ll.getD i []) keep ls' w12) := hti.out.ext g12
        have HG12 := Lib.hid (gr_none HG.out g12)
        clear b12 g12 HRD
        go_wp2
        go_roundw
        case rel => exact ⟨j + 1, by omega, by go_num, HT12, HG12.out⟩
        case measure => simp [intOf] <;> omega
      · have hpr : S.pread an (j : Int) = (ll.getD j [], 0) := by
          rw [pread_one ho (by have h1 := ht.tr.ge; have h2 := ht.lc; omega), ht.page hlt hjk, hh.at_ j hlt]
        rw [hpr] at HRD
        have := HA.out (by omega)
        subst this
        obtain ⟨Ai, ci, hci, hri⟩ := HC.out j hlt
        have hcw := hd.gr.cell hci (by simp)
        have hjk2 : ((j : Int) != (k : Int)) = true := by rw [bne_iff_ne]; omega
        have HRI := Lib.hid (fun wx (hx : wr.grownBy wx none) => (hri.ext hd.gr).ext hx)
        have HCW := Lib.hid (fun wx (hx : wr.grownBy wx none) => hx.cell hcw (by simp))
        have hsz : (ll.getD j []).length ≤ 240 := HSM.out j hlt
        clear hd hp ho ht hh hpr hjk hci hri hcw
        generalize ll.getD j [] = pj at *
        go_wp2_with fail
        refine HRD.out.mono ?_
        rintro e w12 ⟨⟨v12, rfl, b12⟩, g12⟩
        have HT12 : Hid (TornD w d pf ll.length k x0 F P (fun i => ll.getD i []) keep ls' w12) := hti.out.ext g12
        have HG12 := Lib.hid (gr_none HG.out g12)
        have HEQ := Lib.hid (eqBt b12.rd (HRI.out _ g12))
        have hcw := HCW.out _ g12
        obtain ⟨A12, c12, rfl⟩ := b12.rd.form
        clear b12 g12 HRD HRI HCW
        go_wp2_with (go_at_call 42; refine HEQ.out.mono ?_; rintro e w13 ⟨rfl, rfl⟩)
        go_roundw
        case rel => exact ⟨j + 1, by omega, by go_num, HT12, HG12.out⟩
        case measure => simp [intOf] <;> omega
    · obtain rfl : j = ll.length := by omega
      have HWL12 := Lib.hid (HWL11.out.ext HG.out)
      have HLL12 := Lib.hid (HLL11.out.ext HG.out)
      clear HWL11 HLL11 HT11 HG
      obtain ⟨-, _, _, gK, oK, eK, hncK, -, -, hAK, hxK⟩ := H3.out
      cases eK
      have hgw : w.grownBy wr none := by obtain ⟨_, _, _, h1, _⟩ := hti.out.ex; exact h1.gr
      have HCK : Hid (∀ i (hi : i < keep.length), wr.cell? ⟨gK, oK + i, none⟩ = some (.int .i64 keep[i])) := fun i hi => by
        have h1 : w.cell? ⟨gK, oK + i, none⟩ = some (.int .i64 keep[i]) := by rw [hxK i (by omega)]; simp [intL, hi]
        exact hgw.cell h1 (by simp)
      have HAK := Lib.hid hAK
      have HGW := Lib.hid hgw
      clear hAK hxK hgw
      go_wp2
      go_loop [26, 27, 28] (fun st i _ => ∃ j : Nat, j ≤ ls'.length ∧ i = .int .i64 j ∧ st = .int .i64 (cntK keep j : Nat)) (fun _ i _ => ls'.length - (intOf i).toNat)
      case atStart => exact ⟨0, by omega, rfl, rfl⟩
      case round =>
        obtain ⟨j, hj, rfl, rfl⟩ := hrel
        have HCS := Lib.hid (cntK_succ keep j)
        have hcl := cntK_le keep j
        by_cases hlt2 : j < ls'.length
        · obtain ⟨cn, hcn⟩ : ∃ cn, cn = cntK keep j := ⟨_, rfl⟩
          rw [← hcn] at HCS hcl ⊢
          clear hcn
          go_wp2
          go_loop [26, 28] (fun st i => ∃ t : Nat, t ≤ keep.length ∧ i = .int .i64 t ∧ st = .int .i64 (cn : Nat) ∧ Hid ((j : Int) ∉ keep.take t)) (fun _ i => keep.length - (intOf i).toNat)
          case atStart => exact ⟨0, by omega, rfl, rfl, Lib.hid (by simp)⟩
          case round =>
            obtain ⟨t, ht, rfl, rfl, hno⟩ := hrel
            by_cases hlt3 : t < keep.length
            · have := HAK.out (by omega)
              subst this
              have hck := HCK.out t hlt3
              by_cases hxk : keep[t] = (j : Int)
              · have HM : Hid (memI keep (j : Int) = true) := by
                  show keep.contains (j : Int) = true
                  rw [← hxk]; simp
                rw [hxk] at hck
                have hb : ((j : Int) == (j : Int)) = true := beq_self_eq_true _
                clear hxk
                go_wp2
                go_round
                case rel => exact ⟨j + 1, by omega, by go_num, by rw [HCS.out, if_pos HM.out]; go_num⟩
                case measure => simp [intOf] <;> omega
              · have HN : Hid ((j : Int) ∉ keep.take (t + 1)) := not_mem_take_succ hlt3 hno.out (fun e => hxk e.symm)
                obtain ⟨z, hz⟩ : ∃ z, z = keep[t] := ⟨_, rfl⟩
                rw [← hz] at hck hxk
                have hb : (z == (j : Int)) = false := by simpa using hxk
                clear hxk hz
                go_wp2
                go_round
                case rel => exact ⟨t + 1, by omega, by go_num, rfl, HN⟩
                case measure => simp [intOf] <;> omega
            · obtain rfl : t = keep.length := by omega
              have HM : Hid (memI keep (j : Int) = false) := by
                show keep.contains (j : Int) = false
                have := hno.out
                rw [List.take_length] at this
                simpa using this
              clear hno
              go_wp2
              go_round
              case rel => exact ⟨j + 1, by omega, by go_num, by rw [HCS.out, if_neg (by rw [HM.out]; simp)]; go_num⟩
              case measure => simp [intOf] <;> omega
        · obtain rfl : j = ls'.length := by omega
          obtain ⟨o, S, x2, hd, hp, ho, ht, hh⟩ := hti.out.ex
          have HRD := Lib.hid (hd.pread hp (k : Int) (by omega))
          have hsk := HSM.out k
          by_cases hm : cntK keep ls'.length = ls'.length
          · obtain ⟨hF1, hF2⟩ := ht.all_ (cntK_all hm)
            have hpr : S.pread an (k : Int) = (b, 0) := by rw [pread_one ho hF1, hF2, HPO.out]
            rw [hpr] at HRD
            rw [hm]
            have hz0 : ((ls'.length : Int) == 0) = false := by rw [beq_eq_false_iff_ne]; omega
            have HEQ0 := Lib.hid (fun (wx : World) (v : Value) (hx : wr.grownBy wx none) (hv : RdB wx v b) => eqBt hv (H2.out.ext (gr_none HGW.out hx)))
            clear hd hp ho ht hh hpr hF1 hF2 hm
            go_wp2_with fail
            refine HRD.out.mono ?_
            rintro e w14 ⟨⟨v14, rfl, b14⟩, g14⟩
            have HEQ := Lib.hid (HEQ0.out _ _ g14 b14.rd)
            have HT14 : Hid (TornD w d pf ll.length k x0 F P (fun i => ll.getD i []) keep ls' w14) := hti.out.ext g14
            have HWL14 := Lib.hid (HWL12.out.ext g14)
            have HLL14 := Lib.hid (HLL12.out.ext g14)
            obtain ⟨A14, c14, rfl⟩ := b14.rd.form
            clear b14 g14 HRD HEQ0
            as_aux_lemma =>
              obtain ⟨o9, S9, x9, hd9, hp9, ho9, ht9, hh9⟩ := HT14.out.ex
              have HGD : Hid (w.grownBy w14 none) := hd9.gr
              have hr9 := ho9.read an_right (256 * k) 256
              have HR9 := Lib.hid (hd9.read an (by simp) ((256 * k : Nat) : Int) ((256 : Nat) : Int) (by omega) (by omega))
              rw [hr9] at HR9
              have e256 : ((256 * k : Nat) : Int) = 256 * (k : Int) := by push_cast; rfl
              rw [e256] at HR9
              obtain ⟨now, hnow⟩ : ∃ now, now = (F.drop (256 * k)).take 256 := ⟨_, rfl⟩
              rw [← hnow] at HR9
              have hnl : now.length ≤ 256 := by rw [hnow, List.length_take]; omega
              have hwl : was.length ≤ 256 := by rw [HWAS.out, List.length_take]; omega
              have HREL : Hid (∀ j, j < now.length → now.getD j 0 = (if j < was.length then was.getD j 0 else 0) ∨ now.getD j 0 = P.getD j 0) := fun j hj => by
                have hj2 : j < 256 ∧ 256 * k + j < F.length := by rw [hnow, List.length_take, List.length_drop] at hj; omega
                have e1 : now.getD j 0 = F.getD (256 * k + j) 0 := by
                  rw [hnow]; simp only [List.getD_eq_getElem?_getD]; rw [List.getElem?_take, if_pos hj2.1, List.getElem?_drop]
                have e2 : (if j < was.length then was.getD j 0 else 0) = x0.getD (256 * k + j) 0 := by
                  split
                  · rw [HWAS.out]; simp only [List.getD_eq_getElem?_getD]; rw [List.getElem?_take, if_pos hj2.1, List.getElem?_drop]
                  · next hn =>
                    rw [HWAS.out, List.length_take, List.length_drop] at hn
                    simp only [List.getD_eq_getElem?_getD]
                    rw [List.getElem?_eq_none (by omega)]; rfl
                rw [e1, e2]
                rcases ht9.got hj2.2 with e | ⟨_, e⟩
                · exact .inl e
                · exact .inr (by rw [e]; congr 1; omega)
              clear hd9 hp9 ho9 ht9 hh9 hr9 e256 hnow
              go_wp2_with (go_at_call 42; refine HEQ.out.mono ?_; rintro e w14b ⟨rfl, rfl⟩; have HEQ := trivial)
              refine HR9.out.mono ?_
              rintro e w15 ⟨⟨v15, rfl, b15⟩, g15⟩
              obtain ⟨A15, c15, rfl⟩ := b15.rd.form
              have HG15 := Lib.hid (gr_none HGD.out g15)
              obtain ⟨gN, oN, hAN, -, -, hcN⟩ := b15.rd.at_
              obtain ⟨gW, oW, hAW, -, -, hcW⟩ := RdB.at_ (HWL14.out.ext g15)
              obtain ⟨gL, oL, hAL, -, -, hcL⟩ := RdB.at_ (HLL14.out.ext g15)
              have HCN : Hid (∀ j (hj : j < now.length), A15 = some ⟨gN, oN, none⟩ ∧ w15.cell? ⟨gN, oN + j, none⟩ = some (.int .u8 (now.getD j 0).toNat)) := fun j hj => ⟨hAN (by omega), by rw [hcN j hj]; simp [List.getD, hj]⟩
              have HCW : Hid (∀ j (hj : j < was.length), A4 = some ⟨gW, oW, none⟩ ∧ w15.cell? ⟨gW, oW + j, none⟩ = some (.int .u8 (was.getD j 0).toNat)) := fun j hj => ⟨hAW (by omega), by rw [hcW j hj]; simp [List.getD, hj]⟩
              have HCL : Hid (∀ j (hj : j < P.length), A5 = some ⟨gL, oL, none⟩ ∧ w15.cell? ⟨gL, oL + j, none⟩ = some (.int .u8 (P.getD j 0).toNat)) := fun j hj => ⟨hAL (by omega), by rw [hcL j hj]; simp [List.getD, hj]⟩
              clear b15 g15 hAN hcN hAW hcW hAL hcL HR9 HWL14 HLL14 HT14 HGD
              go_wp2
              go_loopw [31, 32] (fun i _ wz => ∃ j : Nat, j ≤ now.length ∧ i = .int .i64 j ∧ DrewS w15 wz) (fun i _ _ => now.length - (intOf i).toNat)
              case atStart => exact ⟨0, by omega, rfl, 0, rfl⟩
              case round =>
                obtain ⟨j, hj, rfl, hg⟩ := hrel
                obtain ⟨q0, hq0⟩ := hg
                have HQ0 := Lib.hid hq0
                clear hq0
                by_cases hlt9 : j < now.length
                · obtain ⟨hA9, hn9⟩ := HCN.out j hlt9
                  subst hA9
                  have hrel9 := HREL.out j hlt9
                  have hP9 : j < P.length := by have := HP256.out; omega
                  obtain ⟨hA8, hl9⟩ := HCL.out j hP9
                  subst hA8
                  have hn9' : wr.cell? ⟨gN, oN + j, none⟩ = some (.int .u8 (now.getD j 0).toNat) := by rw [HQ0.out]; exact hn9
                  have hl9' : wr.cell? ⟨gL, oL + j, none⟩ = some (.int .u8 (P.getD j 0).toNat) := by rw [HQ0.out]; exact hl9
                  by_cases hw9 : j < was.length
                  · obtain ⟨hA7, hw9'⟩ := HCW.out j hw9
                    subst hA7
                    replace hw9' : wr.cell? ⟨gW, oW + j, none⟩ = some (.int .u8 (was.getD j 0).toNat) := by rw [HQ0.out]; exact hw9'
                    rw [if_pos hw9] at hrel9
                    obtain ⟨x, hx⟩ : ∃ x, x = (now.getD j 0).toNat := ⟨_, rfl⟩
                    obtain ⟨z, hz⟩ : ∃ z, z = (P.getD j 0).toNat := ⟨_, rfl⟩
                    obtain ⟨y, hy⟩ : ∃ y, y = (was.getD j 0).toNat := ⟨_, rfl⟩
                    have hor : x = y ∨ x = z := by
                      rcases hrel9 with e | e
                      · exact .inl (by rw [hx, hy, e])
                      · exact .inr (by rw [hx, hz, e])
                    rw [← hx] at hn9'
                    rw [← hz] at hl9'
                    rw [← hy] at hw9'
                    clear hx hz hy hrel9 hn9 hl9
                    by_cases hxy : x = y
                    · subst hxy
                      have hb9 : ((x : Int) != (x : Int)) = false := by simp
                      clear hor
                      go_wp2_with fail
                      go_quiet (fail)
                      go_wp2
                      go_roundw
                      case rel => exact ⟨j + 1, by omega, by go_num, q0 + nq, by rw [HQ0.out, World.drewN_drewN]⟩
                      case measure => simp [intOf] <;> omega
                    · obtain rfl : x = z := by omega
                      have hb9 : ((x : Int) != (y : Int)) = true := by rw [bne_iff_ne]; omega
                      have hb8 : ((x : Int) != (x : Int)) = false := by simp
                      clear hor hxy
                      go_wp2_with fail
                      go_quiet (fail)
                      go_wp2
                      go_roundw
                      case rel => exact ⟨j + 1, by omega, by go_num, q0 + nq, by rw [HQ0.out, World.drewN_drewN]⟩
                      case measure => simp [intOf] <;> omega
                  · rw [if_neg hw9] at hrel9
                    have hw9' : ((0 : UInt8).toNat : Int) = 0 := rfl
                    obtain ⟨x, hx⟩ : ∃ x, x = (now.getD j 0).toNat := ⟨_, rfl⟩
                    obtain ⟨z, hz⟩ : ∃ z, z = (P.getD j 0).toNat := ⟨_, rfl⟩
                    have hy : (0 : Nat) = (0 : UInt8).toNat := rfl
                    have hor : x = 0 ∨ x = z := by
                      rcases hrel9 with e | e
                      · exact .inl (by rw [hx, hy, e])
                      · exact .inr (by rw [hx, hz, e])
                    rw [← hx] at hn9'
                    rw [← hz] at hl9'
                    clear hx hz hy hrel9 hn9 hl9
                    by_cases hxy : x = 0
                    · subst hxy
                      clear hor
                      go_wp2_with fail
                      go_quiet (fail)
                      go_wp2
                      go_roundw
                      case rel => exact ⟨j + 1, by omega, by go_num, q0 + nq, by rw [HQ0.out, World.drewN_drewN]⟩
                      case measure => simp [intOf] <;> omega
                    · obtain rfl : x = z := by omega
                      have hb9 : ((x : Int) != 0) = true := by rw [bne_iff_ne]; omega
                      have hb8 : ((x : Int) != (x : Int)) = false := by simp
                      clear hor hxy
                      go_wp2_with fail
                      go_quiet (fail)
                      go_wp2
                      go_roundw
                      case rel => exact ⟨j + 1, by omega, by go_num, q0 + nq, by rw [HQ0.out, World.drewN_drewN]⟩
                      case measure => simp [intOf] <;> omega
                · obtain rfl : j = now.length := by omega
                  go_wp2_with (go_at_call 35; refine (works_any _).mono ?_; rintro e w16 ⟨rfl, g16⟩)
                  go_ret
                  exact ⟨rfl, gr_none (gr_none HG15.out (by rw [HQ0.out]; exact gr_drewN _ _ none)) g16⟩
          · by_cases hm0 : cntK keep ls'.length = 0
            · by_cases hkn : k < ll.length
              · have hpr : S.pread an (k : Int) = (ll.getD k [], 0) := by
                  rw [pread_one ho (by have h1 := ht.tr.ge; have h2 := ht.lc; omega), ht.none_ hkn (cntK_none hm0), hh.at_ k hkn]
                rw [hpr] at HRD
                rw [hm0]
                have := HA.out (by omega)
                subst this
                obtain ⟨Ai, ci, hci, hri⟩ := HC.out k hkn
                have hcw := hd.gr.cell hci (by simp)
                have HRI := Lib.hid (fun wx (hx : wr.grownBy wx none) => (hri.ext hd.gr).ext hx)
                have HCW := Lib.hid (fun wx (hx : wr.grownBy wx none) => hx.cell hcw (by simp))
                have hsz : (ll.getD k []).length ≤ 240 := hsk hkn
                have hz0 : ((0 : Int) == (ls'.length : Int)) = false := by rw [beq_eq_false_iff_ne]; omega
                clear hd hp ho ht hh hpr hm hm0 hci hri hcw hsk
                generalize ll.getD k [] = pj at HRD hsz HRI HCW
                go_wp2_with fail
                refine HRD.out.mono ?_
                rintro e w14 ⟨⟨v14, rfl, b14⟩, g14⟩
                have HEQ := Lib.hid (eqBt b14.rd (HRI.out _ g14))
                have hcw := HCW.out _ g14
                have HT14 : Hid (TornD w d pf ll.length k x0 F P (fun i => ll.getD i []) keep ls' w14) := hti.out.ext g14
                have HWL14 := Lib.hid (HWL12.out.ext g14)
                have HLL14 := Lib.hid (HLL12.out.ext g14)
                obtain ⟨A14, c14, rfl⟩ := b14.rd.form
                clear b14 g14 HRD HRI HCW
                as_aux_lemma =>
                  obtain ⟨o9, S9, x9, hd9, hp9, ho9, ht9, hh9⟩ := HT14.out.ex
                  have HGD : Hid (w.grownBy w14 none) := hd9.gr
                  have hr9 := ho9.read an_right (256 * k) 256
                  have HR9 := Lib.hid (hd9.read an (by simp) ((256 * k : Nat) : Int) ((256 : Nat) : Int) (by omega) (by omega))
                  rw [hr9] at HR9
                  have e256 : ((256 * k : Nat) : Int) = 256 * (k : Int) := by push_cast; rfl
                  rw [e256] at HR9
                  obtain ⟨now, hnow⟩ : ∃ now, now = (F.drop (256 * k)).take 256 := ⟨_, rfl⟩
                  rw [← hnow] at HR9
                  have hnl : now.length ≤ 256 := by rw [hnow, List.length_take]; omega
                  have hwl : was.length ≤ 256 := by rw [HWAS.out, List.length_take]; omega
                  have HREL : Hid (∀ j, j < now.length → now.getD j 0 = (if j < was.length then was.getD j 0 else 0) ∨ now.getD j 0 = P.getD j 0) := fun j hj => by
                    have hj2 : j < 256 ∧ 256 * k + j < F.length := by rw [hnow, List.length_take, List.length_drop] at hj; omega
                    have e1 : now.getD j 0 = F.getD (256 * k + j) 0 := by
                      rw [hnow]; simp only [List.getD_eq_getElem?_getD]; rw [List.getElem?_take, if_pos hj2.1, List.getElem?_drop]
                    have e2 : (if j < was.length then was.getD j 0 else 0) = x0.getD (256 * k + j) 0 := by
                      split
                      · rw [HWAS.out]; simp only [List.getD_eq_getElem?_getD]; rw [List.getElem?_take, if_pos hj2.1, List.getElem?_drop]
                      · next hn =>
                        rw [HWAS.out, List.length_take, List.length_drop] at hn
                        simp only [List.getD_eq_getElem?_getD]
                        rw [List.getElem?_eq_none (by omega)]; rfl
                    rw [e1, e2]
                    rcases ht9.got hj2.2 with e | ⟨_, e⟩
                    · exact .inl e
                    · exact .inr (by rw [e]; congr 1; omega)
                  clear hd9 hp9 ho9 ht9 hh9 hr9 e256 hnow
                  go_wp2_with (go_at_call 42; refine HEQ.out.mono ?_; rintro e w14b ⟨rfl, rfl⟩; have HEQ := trivial)
                  refine HR9.out.mono ?_
                  rintro e w15 ⟨⟨v15, rfl, b15⟩, g15⟩
                  obtain ⟨A15, c15, rfl⟩ := b15.rd.form
                  have HG15 := Lib.hid (gr_none HGD.out g15)
                  obtain ⟨gN, oN, hAN, -, -, hcN⟩ := b15.rd.at_
                  obtain ⟨gW, oW, hAW, -, -, hcW⟩ := RdB.at_ (HWL14.out.ext g15)
                  obtain ⟨gL, oL, hAL, -, -, hcL⟩ := RdB.at_ (HLL14.out.ext g15)
                  have HCN : Hid (∀ j (hj : j < now.length), A15 = some ⟨gN, oN, none⟩ ∧ w15.cell? ⟨gN, oN + j, none⟩ = some (.int .u8 (now.getD j 0).toNat)) := fun j hj => ⟨hAN (by omega), by rw [hcN j hj]; simp [List.getD, hj]⟩
                  have HCW : Hid (∀ j (hj : j < was.length), A4 = some ⟨gW, oW, none⟩ ∧ w15.cell? ⟨gW, oW + j, none⟩ = some (.int .u8 (was.getD j 0).toNat)) := fun j hj => ⟨hAW (by omega), by rw [hcW j hj]; simp [List.getD, hj]⟩
                  have HCL : Hid (∀ j (hj : j < P.length), A5 = some ⟨gL, oL, none⟩ ∧ w15.cell? ⟨gL, oL + j, none⟩ = some (.int .u8 (P.getD j 0).toNat)) := fun j hj => ⟨hAL (by omega), by rw [hcL j hj]; simp [List.getD, hj]⟩
                  clear b15 g15 hAN hcN hAW hcW hAL hcL HR9 HWL14 HLL14 HT14 HGD
                  go_wp2
                  go_loopw [31, 32] (fun i _ wz => ∃ j : Nat, j ≤ now.length ∧ i = .int .i64 j ∧ DrewS w15 wz) (fun i _ _ => now.length - (intOf i).toNat)
                  case atStart => exact ⟨0, by omega, rfl, 0, rfl⟩
                  case round =>
                    obtain ⟨j, hj, rfl, hg⟩ := hrel
                    obtain ⟨q0, hq0⟩ := hg
                    have HQ0 := Lib.hid hq0
                    clear hq0
                    by_cases hlt9 : j < now.length
                    · obtain ⟨hA9, hn9⟩ := HCN.out j hlt9
                      subst hA9
                      have hrel9 := HREL.out j hlt9
                      have hP9 : j < P.length := by have := HP256.out; omega
                      obtain ⟨hA8, hl9⟩ := HCL.out j hP9
                      subst hA8
                      have hn9' : wr.cell? ⟨gN, oN + j, none⟩ = some (.int .u8 (now.getD j 0).toNat) := by rw [HQ0.out]; exact hn9
                      have hl9' : wr.cell? ⟨gL, oL + j, none⟩ = some (.int .u8 (P.getD j 0).toNat) := by rw [HQ0.out]; exact hl9
                      by_cases hw9 : j < was.length
                      · obtain ⟨hA7, hw9'⟩ := HCW.out j hw9
                        subst hA7
                        replace hw9' : wr.cell? ⟨gW, oW + j, none⟩ = some (.int .u8 (was.getD j 0).toNat) := by rw [HQ0.out]; exact hw9'
                        rw [if_pos hw9] at hrel9
                        obtain ⟨x, hx⟩ : ∃ x, x = (now.getD j 0).toNat := ⟨_, rfl⟩
                        obtain ⟨z, hz⟩ : ∃ z, z = (P.getD j 0).toNat := ⟨_, rfl⟩
                        obtain ⟨y, hy⟩ : ∃ y, y = (was.getD j 0).toNat := ⟨_, rfl⟩
                        have hor : x = y ∨ x = z := by
                          rcases hrel9 with e | e
                          · exact .inl (by rw [hx, hy, e])
                          · exact .inr (by rw [hx, hz, e])
                        rw [← hx] at hn9'
                        rw [← hz] at hl9'
                        rw [← hy] at hw9'
                        clear hx hz hy hrel9 hn9 hl9
                        by_cases hxy : x = y
                        · subst hxy
                          have hb9 : ((x : Int) != (x : Int)) = false := by simp
                          clear hor
                          go_wp2_with fail
                          go_quiet (fail)
                          go_wp2
                          go_roundw
                          case rel => exact ⟨j + 1, by omega, by go_num, q0 + nq, by rw [HQ0.out, World.drewN_drewN]⟩
                          case measure => simp [intOf] <;> omega
                        · obtain rfl : x = z := by omega
                          have hb9 : ((x : Int) != (y : Int)) = true := by rw [bne_iff_ne]; omega
                          have hb8 : ((x : Int) != (x : Int)) = false := by simp
                          clear hor hxy
                          go_wp2_with fail
                          go_quiet (fail)
                          go_wp2
                          go_roundw
                          case rel => exact ⟨j + 1, by omega, by go_num, q0 + nq, by rw [HQ0.out, World.drewN_drewN]⟩
                          case measure => simp [intOf] <;> omega
                      · rw [if_neg hw9] at hrel9
                        have hw9' : ((0 : UInt8).toNat : Int) = 0 := rfl
                        obtain ⟨x, hx⟩ : ∃ x, x = (now.getD j 0).toNat := ⟨_, rfl⟩
                        obtain ⟨z, hz⟩ : ∃ z, z = (P.getD j 0).toNat := ⟨_, rfl⟩
                        have hy : (0 : Nat) = (0 : UInt8).toNat := rfl
                        have hor : x = 0 ∨ x = z := by
                          rcases hrel9 with e | e
                          · exact .inl (by rw [hx, hy, e])
                          · exact .inr (by rw [hx, hz, e])
                        rw [← hx] at hn9'
                        rw [← hz] at hl9'
                        clear hx hz hy hrel9 hn9 hl9
                        by_cases hxy : x = 0
                        · subst hxy
                          clear hor
                          go_wp2_with fail
                          go_quiet (fail)
                          go_wp2
                          go_roundw
                          case rel => exact ⟨j + 1, by omega, by go_num, q0 + nq, by rw [HQ0.out, World.drewN_drewN]⟩
                          case measure => simp [intOf] <;> omega
                        · obtain rfl : x = z := by omega
                          have hb9 : ((x : Int) != 0) = true := by rw [bne_iff_ne]; omega
                          have hb8 : ((x : Int) != (x : Int)) = false := by simp
                          clear hor hxy
                          go_wp2_with fail
                          go_quiet (fail)
                          go_wp2
                          go_roundw
                          case rel => exact ⟨j + 1, by omega, by go_num, q0 + nq, by rw [HQ0.out, World.drewN_drewN]⟩
                          case measure => simp [intOf] <;> omega
                    · obtain rfl : j = now.length := by omega
                      go_wp2_with (go_at_call 35; refine (works_any _).mono ?_; rintro e w16 ⟨rfl, g16⟩)
                      go_ret
                      exact ⟨rfl, gr_none (gr_none HG15.out (by rw [HQ0.out]; exact gr_drewN _ _ none)) g16⟩
              · rw [hm0]
                obtain ⟨X, hX⟩ : ∃ X, X = S.pread an (k : Int) := ⟨_, rfl⟩
                rw [← hX] at HRD
                obtain ⟨xb, xe⟩ := X
                have hz0 : ((0 : Int) == (ls'.length : Int)) = false := by rw [beq_eq_false_iff_ne]; omega
                have hkl : decide ((k : Int) < (ll.length : Int)) = false := by simp; omega
                clear hd hp ho ht hh hX hm hm0 hsk
                go_wp2_with fail
                refine HRD.out.mono ?_
                rintro e w14 ⟨⟨v14, rfl, b14⟩, g14⟩
                have HT14 : Hid (TornD w d pf ll.length k x0 F P (fun i => ll.getD i []) keep ls' w14) := hti.out.ext g14
                have HWL14 := Lib.hid (HWL12.out.ext g14)
                have HLL14 := Lib.hid (HLL12.out.ext g14)
                clear b14 g14 HRD
                as_aux_lemma =>
                  obtain ⟨o9, S9, x9, hd9, hp9, ho9, ht9, hh9⟩ := HT14.out.ex
                  have HGD : Hid (w.grownBy w14 none) := hd9.gr
                  have hr9 := ho9.read an_right (256 * k) 256
                  have HR9 := Lib.hid (hd9.read an (by simp) ((256 * k : Nat) : Int) ((256 : Nat) : Int) (by omega) (by omega))
                  rw [hr9] at HR9
                  have e256 : ((256 * k : Nat) : Int) = 256 * (k : Int) := by push_cast; rfl
                  rw [e256] at HR9
                  obtain ⟨now, hnow⟩ : ∃ now, now = (F.drop (256 * k)).take 256 := ⟨_, rfl⟩
                  rw [← hnow] at HR9
                  have hnl : now.length ≤ 256 := by rw [hnow, List.length_take]; omega
                  have hwl : was.length ≤ 256 := by rw [HWAS.out, List.length_take]; omega
                  have HREL : Hid (∀ j, j < now.length → now.getD j 0 = (if j < was.length then was.getD j 0 else 0) ∨ now.getD j 0 = P.getD j 0) := fun j hj => by
                    have hj2 : j < 256 ∧ 256 * k + j < F.length := by rw [hnow, List.length_take, List.length_drop] at hj; omega
                    have e1 : now.getD j 0 = F.getD (256 * k + j) 0 := by
                      rw [hnow]; simp only [List.getD_eq_getElem?_getD]; rw [List.getElem?_take, if_pos hj2.1, List.getElem?_drop]
                    have e2 : (if j < was.length then was.getD j 0 else 0) = x0.getD (256 * k + j) 0 := by
                      split
                      · rw [HWAS.out]; simp only [List.getD_eq_getElem?_getD]; rw [List.getElem?_take, if_pos hj2.1, List.getElem?_drop]
                      · next hn =>
                        rw [HWAS.out, List.length_take, List.length_drop] at hn
                        simp only [List.getD_eq_getElem?_getD]
                        rw [List.getElem?_eq_none (by omega)]; rfl
                    rw [e1, e2]
                    rcases ht9.got hj2.2 with e | ⟨_, e⟩
                    · exact .inl e
                    · exact .inr (by rw [e]; congr 1; omega)
                  clear hd9 hp9 ho9 ht9 hh9 hr9 e256 hnow
                  go_wp2_with fail
                  refine HR9.out.mono ?_
                  rintro e w15 ⟨⟨v15, rfl, b15⟩, g15⟩
                  obtain ⟨A15, c15, rfl⟩ := b15.rd.form
                  have HG15 := Lib.hid (gr_none HGD.out g15)
                  obtain ⟨gN, oN, hAN, -, -, hcN⟩ := b15.rd.at_
                  obtain ⟨gW, oW, hAW, -, -, hcW⟩ := RdB.at_ (HWL14.out.ext g15)
                  obtain ⟨gL, oL, hAL, -, -, hcL⟩ := RdB.at_ (HLL14.out.ext g15)
                  have HCN : Hid (∀ j (hj : j < now.length), A15 = some ⟨gN, oN, none⟩ ∧ w15.cell? ⟨gN, oN + j, none⟩ = some (.int .u8 (now.getD j 0).toNat)) := fun j hj => ⟨hAN (by omega), by rw [hcN j hj]; simp [List.getD, hj]⟩
                  have HCW : Hid (∀ j (hj : j < was.length), A4 = some ⟨gW, oW, none⟩ ∧ w15.cell? ⟨gW, oW + j, none⟩ = some (.int .u8 (was.getD j 0).toNat)) := fun j hj => ⟨hAW (by omega), by rw [hcW j hj]; simp [List.getD, hj]⟩
                  have HCL : Hid (∀ j (hj : j < P.length), A5 = some ⟨gL, oL, none⟩ ∧ w15.cell? ⟨gL, oL + j, none⟩ = some (.int .u8 (P.getD j 0).toNat)) := fun j hj => ⟨hAL (by omega), by rw [hcL j hj]; simp [List.getD, hj]⟩
                  clear b15 g15 hAN hcN hAW hcW hAL hcL HR9 HWL14 HLL14 HT14 HGD
                  go_wp2
                  go_loopw [31, 32] (fun i _ wz => ∃ j : Nat, j ≤ now.length ∧ i = .int .i64 j ∧ DrewS w15 wz) (fun i _ _ => now.length - (intOf i).toNat)
                  case atStart => exact ⟨0, by omega, rfl, 0, rfl⟩
                  case round =>
                    obtain ⟨j, hj, rfl, hg⟩ := hrel
                    obtain ⟨q0, hq0⟩ := hg
                    have HQ0 := Lib.hid hq0
                    clear hq0
                    by_cases hlt9 : j < now.length
                    · obtain ⟨hA9, hn9⟩ := HCN.out j hlt9
                      subst hA9
                      have hrel9 := HREL.out j hlt9
                      have hP9 : j < P.length := by have := HP256.out; omega
                      obtain ⟨hA8, hl9⟩ := HCL.out j hP9
                      subst hA8
                      have hn9' : wr.cell? ⟨gN, oN + j, none⟩ = some (.int .u8 (now.getD j 0).toNat) := by rw [HQ0.out]; exact hn9
                      have hl9' : wr.cell? ⟨gL, oL + j, none⟩ = some (.int .u8 (P.getD j 0).toNat) := by rw [HQ0.out]; exact hl9
                      by_cases hw9 : j < was.length
                      · obtain ⟨hA7, hw9'⟩ := HCW.out j hw9
                        subst hA7
                        replace hw9' : wr.cell? ⟨gW, oW + j, none⟩ = some (.int .u8 (was.getD j 0).toNat) := by rw [HQ0.out]; exact hw9'
                        rw [if_pos hw9] at hrel9
                        obtain ⟨x, hx⟩ : ∃ x, x = (now.getD j 0).toNat := ⟨_, rfl⟩
                        obtain ⟨z, hz⟩ : ∃ z, z = (P.getD j 0).toNat := ⟨_, rfl⟩
                        obtain ⟨y, hy⟩ : ∃ y, y = (was.getD j 0).toNat := ⟨_, rfl⟩
                        have hor : x = y ∨ x = z := by
                          rcases hrel9 with e | e
                          · exact .inl (by rw [hx, hy, e])
                          · exact .inr (by rw [hx, hz, e])
                        rw [← hx] at hn9'
                        rw [← hz] at hl9'
                        rw [← hy] at hw9'
                        clear hx hz hy hrel9 hn9 hl9
                        by_cases hxy : x = y
                        · subst hxy
                          have hb9 : ((x : Int) != (x : Int)) = false := by simp
                          clear hor
                          go_wp2_with fail
                          go_quiet (fail)
                          go_wp2
                          go_roundw
                          case rel => exact ⟨j + 1, by omega, by go_num, q0 + nq, by rw [HQ0.out, World.drewN_drewN]⟩
                          case measure => simp [intOf] <;> omega
                        · obtain rfl : x = z := by omega
                          have hb9 : ((x : Int) != (y : Int)) = true := by rw [bne_iff_ne]; omega
                          have hb8 : ((x : Int) != (x : Int)) = false := by simp
                          clear hor hxy
                          go_wp2_with fail
                          go_quiet (fail)
                          go_wp2
                          go_roundw
                          case rel => exact ⟨j + 1, by omega, by go_num, q0 + nq, by rw [HQ0.out, World.drewN_drewN]⟩
                          case measure => simp [intOf] <;> omega
                      · rw [if_neg hw9] at hrel9
                        have hw9' : ((0 : UInt8).toNat : Int) = 0 := rfl
                        obtain ⟨x, hx⟩ : ∃ x, x = (now.getD j 0).toNat := ⟨_, rfl⟩
                        obtain ⟨z, hz⟩ : ∃ z, z = (P.getD j 0).toNat := ⟨_, rfl⟩
                        have hy : (0 : Nat) = (0 : UInt8).toNat := rfl
                        have hor : x = 0 ∨ x = z := by
                          rcases hrel9 with e | e
                          · exact .inl (by rw [hx, hy, e])
                          · exact .inr (by rw [hx, hz, e])
                        rw [← hx] at hn9'
                        rw [← hz] at hl9'
                        clear hx hz hy hrel9 hn9 hl9
                        by_cases hxy : x = 0
                        · subst hxy
                          clear hor
                          go_wp2_with fail
                          go_quiet (fail)
                          go_wp2
                          go_roundw
                          case rel => exact ⟨j + 1, by omega, by go_num, q0 + nq, by rw [HQ0.out, World.drewN_drewN]⟩
                          case measure => simp [intOf] <;> omega
                        · obtain rfl : x = z := by omega
                          have hb9 : ((x : Int) != 0) = true := by rw [bne_iff_ne]; omega
                          have hb8 : ((x : Int) != (x : Int)) = false := by simp
                          clear hor hxy
                          go_wp2_with fail
                          go_quiet (fail)
                          go_wp2
                          go_roundw
                          case rel => exact ⟨j + 1, by omega, by go_num, q0 + nq, by rw [HQ0.out, World.drewN_drewN]⟩
                          case measure => simp [intOf] <;> omega
                    · obtain rfl : j = now.length := by omega
                      go_wp2_with (go_at_call 35; refine (works_any _).mono ?_; rintro e w16 ⟨rfl, g16⟩)
                      go_ret
                      exact ⟨rfl, gr_none (gr_none HG15.out (by rw [HQ0.out]; exact gr_drewN _ _ none)) g16⟩
            · obtain ⟨X, hX⟩ : ∃ X, X = S.pread an (k : Int) := ⟨_, rfl⟩
              rw [← hX] at HRD
              obtain ⟨xb, xe⟩ := X
              obtain ⟨cn, hcn⟩ : ∃ cn, cn = cntK keep ls'.length := ⟨_, rfl⟩
              rw [← hcn] at hm hm0 ⊢
              have hz0 : ((cn : Int) == (ls'.length : Int)) = false := by rw [beq_eq_false_iff_ne]; omega
              have hz1 : ((cn : Int) == 0) = false := by rw [beq_eq_false_iff_ne]; omega
              clear hd hp ho ht hh hX hm hm0 hsk hcn hcl HCS
              go_wp2_with fail
              refine HRD.out.mono ?_
              rintro e w14 ⟨⟨v14, rfl, b14⟩, g14⟩
              have HT14 : Hid (TornD w d pf ll.length k x0 F P (fun i => ll.getD i []) keep ls' w14) := hti.out.ext g14
              have HWL14 := Lib.hid (HWL12.out.ext g14)
              have HLL14 := Lib.hid (HLL12.out.ext g14)
              clear b14 g14 HRD
              as_aux_lemma =>
                obtain ⟨o9, S9, x9, hd9, hp9, ho9, ht9, hh9⟩ := HT14.out.ex
                have HGD : Hid (w.grownBy w14 none) := hd9.gr
                have hr9 := ho9.read an_right (256 * k) 256
                have HR9 := Lib.hid (hd9.read an (by simp) ((256 * k : Nat) : Int) ((256 : Nat) : Int) (by omega) (by omega))
                rw [hr9] at HR9
                have e256 : ((256 * k : Nat) : Int) = 256 * (k : Int) := by push_cast; rfl
                rw [e256] at HR9
                obtain ⟨now, hnow⟩ : ∃ now, now = (F.drop (256 * k)).take 256 := ⟨_, rfl⟩
                rw [← hnow] at HR9
                have hnl : now.length ≤ 256 := by rw [hnow, List.length_take]; omega
                have hwl : was.length ≤ 256 := by rw [HWAS.out, List.length_take]; omega
                have HREL : Hid (∀ j, j < now.length → now.getD j 0 = (if j < was.length then was.getD j 0 else 0) ∨ now.getD j 0 = P.getD j 0) := fun j hj => by
                  have hj2 : j < 256 ∧ 256 * k + j < F.length := by rw [hnow, List.length_take, List.length_drop] at hj; omega
                  have e1 : now.getD j 0 = F.getD (256 * k + j) 0 := by
                    rw [hnow]; simp only [List.getD_eq_getElem?_getD]; rw [List.getElem?_take, if_pos hj2.1, List.getElem?_drop]
                  have e2 : (if j < was.length then was.getD j 0 else 0) = x0.getD (256 * k + j) 0 := by
                    split
                    · rw [HWAS.out]; simp only [List.getD_eq_getElem?_getD]; rw [List.getElem?_take, if_pos hj2.1, List.getElem?_drop]
                    · next hn =>
                      rw [HWAS.out, List.length_take, List.length_drop] at hn
                      simp only [List.getD_eq_getElem?_getD]
                      rw [List.getElem?_eq_none (by omega)]; rfl
                  rw [e1, e2]
                  rcases ht9.got hj2.2 with e | ⟨_, e⟩
                  · exact .inl e
                  · exact .inr (by rw [e]; congr 1; omega)
                clear hd9 hp9 ho9 ht9 hh9 hr9 e256 hnow
                go_wp2_with fail
                refine HR9.out.mono ?_
                rintro e w15 ⟨⟨v15, rfl, b15⟩, g15⟩
                obtain ⟨A15, c15, rfl⟩ := b15.rd.form
                have HG15 := Lib.hid (gr_none HGD.out g15)
                obtain ⟨gN, oN, hAN, -, -, hcN⟩ := b15.rd.at_
                obtain ⟨gW, oW, hAW, -, -, hcW⟩ := RdB.at_ (HWL14.out.ext g15)
                obtain ⟨gL, oL, hAL, -, -, hcL⟩ := RdB.at_ (HLL14.out.ext g15)
                have HCN : Hid (∀ j (hj : j < now.length), A15 = some ⟨gN, oN, none⟩ ∧ w15.cell? ⟨gN, oN + j, none⟩ = some (.int .u8 (now.getD j 0).toNat)) := fun j hj => ⟨hAN (by omega), by rw [hcN j hj]; simp [List.getD, hj]⟩
                have HCW : Hid (∀ j (hj : j < was.length), A4 = some ⟨gW, oW, none⟩ ∧ w15.cell? ⟨gW, oW + j, none⟩ = some (.int .u8 (was.getD j 0).toNat)) := fun j hj => ⟨hAW (by omega), by rw [hcW j hj]; simp [List.getD, hj]⟩
                have HCL : Hid (∀ j (hj : j < P.length), A5 = some ⟨gL, oL, none⟩ ∧ w15.cell? ⟨gL, oL + j, none⟩ = some (.int .u8 (P.getD j 0).toNat)) := fun j hj => ⟨hAL (by omega), by rw [hcL j hj]; simp [List.getD, hj]⟩
                clear b15 g15 hAN hcN hAW hcW hAL hcL HR9 HWL14 HLL14 HT14 HGD
                go_wp2
                go_loopw [31, 32] (fun i _ wz => ∃ j : Nat, j ≤ now.length ∧ i = .int .i64 j ∧ DrewS w15 wz) (fun i _ _ => now.length - (intOf i).toNat)
                case atStart => exact ⟨0, by omega, rfl, 0, rfl⟩
                case round =>
                  obtain ⟨j, hj, rfl, hg⟩ := hrel
                  obtain ⟨q0, hq0⟩ := hg
                  have HQ0 := Lib.hid hq0
                  clear hq0
                  by_cases hlt9 : j < now.length
                  · obtain ⟨hA9, hn9⟩ := HCN.out j hlt9
                    subst hA9
                    have hrel9 := HREL.out j hlt9
                    have hP9 : j < P.length := by have := HP256.out; omega
                    obtain ⟨hA8, hl9⟩ := HCL.out j hP9
                    subst hA8
                    have hn9' : wr.cell? ⟨gN, oN + j, none⟩ = some (.int .u8 (now.getD j 0).toNat) := by rw [HQ0.out]; exact hn9
                    have hl9' : wr.cell? ⟨gL, oL + j, none⟩ = some (.int .u8 (P.getD j 0).toNat) := by rw [HQ0.out]; exact hl9
                    by_cases hw9 : j < was.length
                    · obtain ⟨hA7, hw9'⟩ := HCW.out j hw9
                      subst hA7
                      replace hw9' : wr.cell? ⟨gW, oW + j, none⟩ = some (.int .u8 (was.getD j 0).toNat) := by rw [HQ0.out]; exact hw9'
                      rw [if_pos hw9] at hrel9
                      obtain ⟨x, hx⟩ : ∃ x, x = (now.getD j 0).toNat := ⟨_, rfl⟩
                      obtain ⟨z, hz⟩ : ∃ z, z = (P.getD j 0).toNat := ⟨_, rfl⟩
                      obtain ⟨y, hy⟩ : ∃ y, y = (was.getD j 0).toNat := ⟨_, rfl⟩
                      have hor : x = y ∨ x = z := by
                        rcases hrel9 with e | e
                        · exact .inl (by rw [hx, hy, e])
                        · exact .inr (by rw [hx, hz, e])
                      rw [← hx] at hn9'
                      rw [← hz] at hl9'
                      rw [← hy] at hw9'
                      clear hx hz hy hrel9 hn9 hl9
                      by_cases hxy : x = y
                      · subst hxy
                        have hb9 : ((x : Int) != (x : Int)) = false := by simp
                        clear hor
                        go_wp2_with fail
                        go_quiet (fail)
                        go_wp2
                        go_roundw
                        case rel => exact ⟨j + 1, by omega, by go_num, q0 + nq, by rw [HQ0.out, World.drewN_drewN]⟩
                        case measure => simp [intOf] <;> omega
                      · obtain rfl : x = z := by omega
                        have hb9 : ((x : Int) != (y : Int)) = true := by rw [bne_iff_ne]; omega
                        have hb8 : ((x : Int) != (x : Int)) = false := by simp
                        clear hor hxy
                        go_wp2_with fail
                        go_quiet (fail)
                        go_wp2
                        go_roundw
                        case rel => exact ⟨j + 1, by omega, by go_num, q0 + nq, by rw [HQ0.out, World.drewN_drewN]⟩
                        case measure => simp [intOf] <;> omega
                    · rw [if_neg hw9] at hrel9
                      have hw9' : ((0 : UInt8).toNat : Int) = 0 := rfl
                      obtain ⟨x, hx⟩ : ∃ x, x = (now.getD j 0).toNat := ⟨_, rfl⟩
                      obtain ⟨z, hz⟩ : ∃ z, z = (P.getD j 0).toNat := ⟨_, rfl⟩
                      have hy : (0 : Nat) = (0 : UInt8).toNat := rfl
                      have hor : x = 0 ∨ x = z := by
                        rcases hrel9 with e | e
                        · exact .inl (by rw [hx, hy, e])
                        · exact .inr (by rw [hx, hz, e])
                      rw [← hx] at hn9'
                      rw [← hz] at hl9'
                      clear hx hz hy hrel9 hn9 hl9
                      by_cases hxy : x = 0
                      · subst hxy
                        clear hor
                        go_wp2_with fail
                        go_quiet (fail)
                        go_wp2
                        go_roundw
                        case rel => exact ⟨j + 1, by omega, by go_num, q0 + nq, by rw [HQ0.out, World.drewN_drewN]⟩
                        case measure => simp [intOf] <;> omega
                      · obtain rfl : x = z := by omega
                        have hb9 : ((x : Int) != 0) = true := by rw [bne_iff_ne]; omega
                        have hb8 : ((x : Int) != (x : Int)) = false := by simp
                        clear hor hxy
                        go_wp2_with fail
                        go_quiet (fail)
                        go_wp2
                        go_roundw
                        case rel => exact ⟨j + 1, by omega, by go_num, q0 + nq, by rw [HQ0.out, World.drewN_drewN]⟩
                        case measure => simp [intOf] <;> omega
                  · obtain rfl : j = now.length := by omega
                    go_wp2_with (go_at_call 35; refine (works_any _).mono ?_; rintro e w16 ⟨rfl, g16⟩)
                    go_ret
                    exact ⟨rfl, gr_none (gr_none HG15.out (by rw [HQ0.out]; exact gr_drewN _ _ none)) g16⟩
end Go.Proofs.Ytfbbbbekialpnaa
