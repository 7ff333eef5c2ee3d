/-
  DiskTorn, the walk.
-/
import Derived.Test.YtfbbbbekialpnaaTorP
import Derived.Test.YtfbbbbekialpnaaInt
import Derived.Test.YtfbbbbekialpnaaCuts
import Derived.Test.YtfbbbbekialpnaaKp
namespace Go.Proofs.Ytfbbbbekialpnaa
open Go.RowKit
set_option maxRecDepth 100000
set_option maxHeartbeats 400000

def u16L (l : List UInt16) : List Value := l.map fun x => .int .u16 x.toNat
def bn : List UInt8 := [98]
/-- k of the writes were done. -/
structure TornI (w : World) (d : Nat) (first : List UInt8) (k : Nat) (wr : World) : Prop where
  ex : ∃ (o : Own1) (S : Dk) (now : List UInt8), DA w d o S wr ∧ One S an now first 4096 ∧ Sm S 1 (4096 + 1024 * k) ∧ now.length ≤ 4096 + 1024 * k ∧ first.length ≤ now.length
set_option maxHeartbeats 4000000 in
theorem torn_any (v : Value) (first : List UInt8) (v1 : Value) (offs : List UInt16) (v2 : Value) (last : List UInt8) (v3 : Value) (keep : List Int) (w : World) (h : RdB w v first) (h1 : Rd w 1 v1 offs.length (u16L offs)) (h2 : RdB w v2 last) (h3 : RdI w v3 keep) :
    Calls Try.prog 3 #[v, v1, v2, v3] w fun e w' => e = .returned (.bool true) ∧ w.grownBy w' none := by
  obtain ⟨A, c0, rfl⟩ := h.form
  obtain ⟨A2, c2, rfl⟩ := h2.form
  obtain ⟨A3, c3, rfl⟩ := h3.form
  have HV := Lib.hid h
  have HV2 := Lib.hid h2
  have HV3 := Lib.hid h3
  obtain ⟨-, A1, c1, g1, off1, rfl, hnc1, hmx1, -, hA1, hx1⟩ := h1
  have HX1 := Lib.hid hx1
  have HA1 := Lib.hid hA1
  clear h h2 h3 hx1 hA1
  by_cases hb1 : 4096 < first.length
  · go_enter Try.func3, Try.ntmps3
    go_wp2_with (go_at_call 15; refine (works6_any _).mono ?_; rintro e w1 ⟨rfl, g1⟩)
    go_ret
    exact ⟨rfl, g1⟩
  by_cases hb2 : 1024 < last.length
  · go_enter Try.func3, Try.ntmps3
    go_wp2_with (go_at_call 15; refine (works6_any _).mono ?_; rintro e w1 ⟨rfl, g1⟩)
    go_ret
    exact ⟨rfl, g1⟩
  by_cases hb3 : 40 < offs.length
  · go_enter Try.func3, Try.ntmps3
    go_wp2_with (go_at_call 15; refine (works6_any _).mono ?_; rintro e w1 ⟨rfl, g1⟩)
    go_ret
    exact ⟨rfl, g1⟩
  by_cases hb4 : 4096 < keep.length
  · go_enter Try.func3, Try.ntmps3
    go_wp2_with (go_at_call 15; refine (works6_any _).mono ?_; rintro e w1 ⟨rfl, g1⟩)
    go_ret
    exact ⟨rfl, g1⟩
  have hl1 : first.length ≤ 4096 := by omega
  have hl2 : last.length ≤ 1024 := by omega
  have hl3 : offs.length ≤ 40 := by omega
  have hl4 : keep.length ≤ 4096 := by omega
  have d1 : decide ((4096 : Int) < (first.length : Int)) = false := by simp; omega
  have d2 : decide ((1024 : Int) < (last.length : Int)) = false := by simp; omega
  have d3 : decide ((40 : Int) < (offs.length : Int)) = false := by simp; omega
  have d4 : decide ((4096 : Int) < (keep.length : Int)) = false := by simp; omega
  clear hb1 hb2 hb3 hb4
  have HNEW := Lib.hid (DA.new 4096 w (by omega))
  obtain ⟨e1, q1⟩ := one_new 4096 an_right
  have s1 := (Sm.new 4096).create an
  obtain ⟨S1, hS1⟩ : ∃ S1, S1 = ((newD 4096).create an).1 := ⟨_, rfl⟩
  rw [← hS1] at q1 s1
  have hC0 : Hid (∀ (wx : World) d o, DA w d o (newD 4096) wx → Calls Try.prog 17 #[.pointer (some ⟨d, 0, none⟩), .string ⟨an.toArray⟩] wx fun e w' => e = .returned (.int .i64 0) ∧ DP w d o S1 wx w') := fun wx d o hx => by
    have := hx.create an (by simp [an]) (by simp [newD])
    rw [e1, ← hS1] at this
    exact this
  obtain ⟨e2, q2, -⟩ := q1.write an_right (p := 0) (b := first) (by simp) (by omega) (by simp only [List.length_nil]; unfold sectors; omega)
  have s2 := s1.write an (0 : Nat) first
  obtain ⟨S2, hS2⟩ : ∃ S2, S2 = (S1.write an (0 : Nat) first).1 := ⟨_, rfl⟩
  rw [← hS2] at q2 s2
  have ov : overZ [] 0 first = first := by simp [overZ]
  rw [ov] at q2
  obtain ⟨e3, q3, -⟩ := q2.sync an_right
  have s3 := s2.sync an
  obtain ⟨S3, hS3⟩ : ∃ S3, S3 = (S2.sync an).1 := ⟨_, rfl⟩
  rw [← hS3] at q3 s3
  have E2 := Lib.hid e2
  have E3 := Lib.hid e3
  have HS2 := Lib.hid hS2
  have HS3 := Lib.hid hS3
  have Q3 := Lib.hid q3
  have K1 := Lib.hid s1
  have K2 := Lib.hid s2
  have K3 := Lib.hid s3
  clear e1 e2 e3 q1 q2 q3 hS1 hS2 hS3 s1 s2 s3 ov
  go_enter Try.func3, Try.ntmps3
  go_wp2_with fail
  refine HNEW.out.mono ?_
  rintro e w1 ⟨d, o1, rfl, h1⟩
  have HC1 := Lib.hid (hC0.out _ _ _ h1)
  clear h1
  go_wp2_with fail
  refine HC1.out.mono ?_
  rintro e w2 ⟨rfl, o2, h2, -⟩
  have H2 := Lib.hid h2
  have HT := Lib.hid (twin_any _ first w2 (HV.out.ext h2.gr) (by omega))
  clear h2 HC1
  go_wp2_with fail
  refine HT.out.mono ?_
  rintro e w3 ⟨⟨v3, rfl, b3⟩, g3⟩
  have HW := Lib.hid (H2.out.write g3 an (by simp [an]) (0 : Nat) (by omega) b3 (by omega) (by have := K1.out.fl; omega) (by have := K1.out.nl; omega))
  rw [E2.out, ← HS2.out] at HW
  clear b3 g3 HT
  go_wp2_with fail
  refine HW.out.mono ?_
  rintro e w4 ⟨rfl, o4, h4, -⟩
  have HS := Lib.hid (h4.sync an (by simp [an]))
  rw [E3.out, ← HS3.out] at HS
  clear h4 HW
  go_wp2_with fail
  refine HS.out.mono ?_
  rintro e w5 ⟨rfl, o5, h5, -⟩
  have HI : Hid (TornI w d first 0 w5) := ⟨o5, S3, first, h5, Q3.out, K3.out.mono (by omega) (by omega), by omega, by omega⟩
  clear h5 HS H2
  go_wp2_with fail
  go_loopw [14, 15, 16, 17] (fun i _ _ _ wr => ∃ k : Nat, k ≤ offs.length ∧ i = .int .i64 k ∧ TornI w d first k wr) (fun i _ _ _ _ => offs.length - (intOf i).toNat)
  case atStart => exact ⟨0, by omega, rfl, HI.out⟩
  case round =>
    obtain ⟨k, hk, rfl, hi⟩ := hrel
    obtain ⟨o, S, now, ha, ho, hs, hln, hlf⟩ := hi.ex
    have HD := Lib.hid ha
    have HO := Lib.hid ho
    have HS := Lib.hid hs
    clear hi ha ho hs HI
    by_cases hlt : k < offs.length
    · have HSZ := Lib.hid (HD.out.size an (by simp [an]))
      rw [HO.out.size an_right] at HSZ
      go_wp2_with fail
      refine HSZ.out.mono ?_
      rintro e w6 ⟨rfl, g6⟩
      have HCW0 : Hid (w.cell? ⟨g1, off1 + k, none⟩ = some (.int .u16 offs[k].toNat)) := by
        have hc0 := HX1.out k (by omega)
        show _ = _
        rw [hc0]; simp [u16L, hlt]
      have hcell : w6.cell? ⟨g1, off1 + k, none⟩ = some (.int .u16 offs[k].toNat) := by
        exact (gr_none HD.out.gr g6).cell HCW0.out (by simp)
      obtain rfl := HA1.out (by omega)
      have HD6 := Lib.hid (HD.out.ext g6)
      obtain ⟨x, hxe⟩ : ∃ x, x = offs[k].toNat := ⟨_, rfl⟩
      have hx16 : x < 65536 := by rw [hxe]; exact offs[k].toNat_lt
      rw [← hxe] at hcell HCW0
      obtain ⟨p, hpe⟩ : ∃ p, p = x % (now.length + 1) := ⟨_, rfl⟩
      have hp : p ≤ now.length := by have := Nat.mod_lt x (show 0 < now.length + 1 by omega); omega
      obtain ⟨e7, q7, -⟩ := HO.out.write an_right (p := p) (b := last) hp (by omega) (by unfold sectors; omega)
      have s7 := HS.out.write an (p : Nat) last
      obtain ⟨S7, hS7⟩ : ∃ S7, S7 = (S.write an (p : Nat) last).1 := ⟨_, rfl⟩
      rw [← hS7] at q7 s7
      have hov : (overZ now p last).length ≤ now.length + last.length ∧ now.length ≤ (overZ now p last).length := by unfold overZ; simp; omega
      have HI7 : Hid (∀ o' w', DA w d o' S7 w' → TornI w d first (k + 1) w') := fun o' w' h' => ⟨o', S7, _, h', q7, s7.mono (by omega) (by omega), by omega, by omega⟩
      have HW7 : Hid (∀ wx wy bv, w6.grownBy wx none → wx.grownBy wy none → OwnB wy wx.heap.size bv last → Calls Try.prog 18 #[.pointer (some ⟨d, 0, none⟩), .string ⟨an.toArray⟩, .int .i64 (p : Int), bv] wy fun e w' => e = .returned (.int .i64 0) ∧ DP w d o S7 wy w') := fun wx wy bv gx gy hb => by
        have := (HD6.out.ext gx).write gy an (by simp [an]) (p : Nat) (by omega) hb (by omega) (by have := HS.out.fl; omega) (by have := HS.out.nl; omega)
        rw [e7, ← hS7] at this
        exact this
      have hmod : (p : Int) = (x : Int) % ((now.length : Int) + 1) := by rw [hpe]; simp
      rw [hmod] at HW7
      have HTW := Lib.hid (fun wx (hx : w6.grownBy wx none) => twin_any _ last wx (HV2.out.ext (gr_none HD6.out.gr hx)) (by omega))
      have hr1 : IntKind.i64.wrap ((now.length : Int) + 1) = (now.length : Int) + 1 := by rw [IntWalk.i64_in _ (by omega)]
      have hr2 : IntKind.i64.wrap (x : Int) = (x : Int) := by rw [IntWalk.i64_in _ (by omega)]
      have hr4 : (((now.length : Int) + 1) == 0) = false := by rw [beq_eq_false_iff_ne]; omega
      have hr5 : ¬ ((now.length : Int) + 1 = 0) := by omega
      have hk1 : (0 : Int) ≤ (k : Int) := by omega
      have hk2 : (k : Int) < (offs.length : Int) := by omega
      have HCELL := Lib.hid hcell
      clear hmod hxe hpe e7 q7 s7 hS7 hov g6 HSZ
      go_wp2_with fail
      go_region_held3 (fun w' => w'.cell? ⟨g1, off1 + k, none⟩ = some (.int .u16 x))
        (first | exact hcell | exact hcw | exact hcx | go_keep)
        (first
          | (go_at_call 19; refine (HTW.out _ (by first | exact gr_refl _ _ | exact gr_drew _ _ | exact gr_drewN _ _ _)).mono ?_; rintro e w8 ⟨⟨v8, rfl, o8⟩, g8⟩; have g68 : w6.grownBy w8 none := gr_none (by first | exact gr_drewN _ _ none | exact gr_drew _ none | exact gr_refl _ none) g8; have hcw : w8.cell? ⟨g1, off1 + k, none⟩ = some (.int .u16 x) := g68.cell HCELL.out (by simp))
          | (go_at_call 18; refine (HW7.out _ _ _ (by first | exact gr_refl _ _ | exact gr_drew _ _ | exact gr_drewN _ _ _) g8 o8).mono ?_; rintro e w9 ⟨rfl, o9, h9, -⟩; have hcx : w9.cell? ⟨g1, off1 + k, none⟩ = some (.int .u16 x) := h9.gr.cell HCW0.out (by simp)))
      have HI9 := Lib.hid (HI7.out _ _ h9)
      clear h9 hcx hcw g68 g8 o8 HTW HCELL hcell HW7
      go_wp2
      go_roundw
      case rel => exact ⟨k + 1, by omega, by go_num, HI9.out⟩
      case measure => simp [intOf]; omega
    · obtain rfl : k = offs.length := by omega
      have hnow : now.length ≤ 45056 := by omega
      have hrd := HO.out.read an_right 0 16777216
      rw [List.drop_zero, List.take_of_length_le (by omega)] at hrd
      have HR := Lib.hid (HD.out.read an (by simp [an]) (0 : Nat) (16777216 : Nat) (by omega) (by omega))
      rw [hrd] at HR
      clear hrd hln
      go_wp2_with fail
      refine HR.out.mono ?_
      rintro e w6 ⟨⟨v6, rfl, b6⟩, g6⟩
      obtain ⟨A6, c6, rfl⟩ := b6.rd.form
      have HB6 := Lib.hid (Kp.new HD.out b6 (by omega))
      have HD6 := Lib.hid (HD.out.ext g6)
      have HL := Lib.hid (HD6.out.loose HS.out.li (by have := HS.out.nl; omega))
      clear b6 g6 HR
      go_wp2_with fail
      refine HL.out.mono ?_
      rintro e w7 ⟨v7, ls, rfl, b7, hls, hll, g7⟩
      have hlsn : ls.length ≤ 45056 := by have := HS.out.nl; omega
      obtain ⟨A7, c7, rfl⟩ := OwnP.form b7
      have HP7 := Lib.hid (Kp.new HD6.out b7 (by omega))
      have HLS := Lib.hid hls
      have HD7 := Lib.hid (HD6.out.ext g7)
      have HB7 := Lib.hid (HB6.out.ext g7)
      have HA7 := Lib.hid (HD7.out.arm (1 : Nat) (by omega))
      rw [HO.out.arm 1] at HA7
      clear b7 hls hll g7 HL HB6 HD6
      go_wp2_with fail
      refine HA7.out.mono ?_
      rintro e w8 ⟨rfl, o8, h8, ch8⟩
      have HC8 := Lib.hid (h8.create bn (by simp [bn]) (by rw [HO.out.fl]; omega))
      rw [create_off] at HC8
      have HP8 := Lib.hid (HP7.out.ch ch8 (by omega))
      have HB8 := Lib.hid (HB7.out.ch ch8 (by omega))
      clear h8 ch8 HA7 HP7 HB7 HD7
      go_wp2_with fail
      refine HC8.out.mono ?_
      rintro e w9 ⟨rfl, o9, h9, ch9⟩
      have HD9 := Lib.hid h9
      have HP9 := Lib.hid (HP8.out.ch ch9 (by omega))
      have HB9 := Lib.hid (HB8.out.ch ch9 (by omega))
      have HK9 := Lib.hid (HV3.out.ext h9.gr)
      clear h9 ch9 HC8 HP8 HB8
      go_wp2_with (at_builtin; refine wp_appI_on (m := keep) (l := []) (by rfl) (.tmp 112) (.tmp 113) rfl rfl (own_emptyI _ _ (Nat.le_refl _)) rfl (HK9.out.ext (gr_alloc _ _ none)) (by simp; omega) (by simp) ?_; rintro v10 w10 o10 g10 -)
      rw [List.nil_append] at o10
      have hg10 : w9.grownBy w10 none := gr_trans (gr_alloc _ _ _) g10 (.inr (fun g e => by cases e; exact Nat.le_refl _))
      have HD10 := Lib.hid (HD9.out.ext hg10)
      have HP10 := Lib.hid (HP9.out.ext hg10)
      have HB10 := Lib.hid (HB9.out.ext hg10)
      have k10 := HS.out.off
      have HON := Lib.hid (HD10.out.on k10.li (by have := k10.nl; omega) (by have := k10.fl; omega) rfl (keep := keep) (Own.rd o10) (by omega))
      clear o10 g10 hg10 HD9 HP9 HB9 HK9 k10
      go_wp2_with fail
      refine HON.out.mono ?_
      rintro e w11 ⟨rfl, ls', hls', o11, h11, ch11⟩
      obtain rfl : ls = ls' := HLS.out.uniq hls' rfl
      have q11 := HO.out.lit (onT S.off keep ls ls.length)
      have eT : onT S.off keep ls ls.length an = onT S keep ls ls.length an := by rw [onT_off]
      rw [eT] at q11
      have htr := torn_of (keep := keep) HO.out HS.out.li HLS.out hlf
      obtain ⟨got, hgot⟩ : ∃ got, got = onT S keep ls ls.length an := ⟨_, rfl⟩
      rw [← hgot] at q11 htr
      have hrd := q11.read an_right 0 16777216
      have hgl := htr.le
      have hgf := htr.ge
      rw [List.drop_zero, List.take_of_length_le (by omega)] at hrd
      have HR := Lib.hid (h11.read an (by simp [an]) (0 : Nat) (16777216 : Nat) (by omega) (by omega))
      rw [hrd] at HR
      have HTR := Lib.hid htr
      have HG11 := Lib.hid h11.gr
      have HP11 := Lib.hid (HP10.out.ch ch11 (by omega))
      have HB11 := Lib.hid (HB10.out.ch ch11 (by omega))
      clear hls' h11 ch11 q11 eT htr hrd HP10 HB10 HON HD10 hgot HD
      go_wp2_with fail
      refine HR.out.mono ?_
      rintro e w12 ⟨⟨v12, rfl, b12⟩, g12⟩
      obtain ⟨A12, c12, rfl⟩ := b12.rd.form
      have HG12 := Lib.hid (gr_none HG11.out g12)
      have HP12 := Lib.hid (HP11.out.ext g12).own
      have HB12 := Lib.hid (HB11.out.ext g12).own.rd
      have HC12 := Lib.hid b12.rd
      have hd1 : decide (got.length < first.length) = false := by simpa using hgf
      have hd2 : decide (now.length < got.length) = false := by simpa using hgl
      clear b12 g12 HR HP11 HB11 HG11
      have hcP : Hid (∀ k (hk : k < ls.length), ∃ g off, A7 = some ⟨g, off, none⟩ ∧ w12.cell? ⟨g, off + k * 2 + 1, none⟩ = some (.int .i64 (ls[k].page.toNat : Int))) := fun k hk => by
        obtain ⟨_, _, _, g, off, e, _, _, _, hA, _⟩ := HP12.out
        cases e
        obtain rfl := hA (by omega)
        exact ⟨g, off, rfl, (OwnP.at_ HP12.out hk).2⟩
      have hcG : Hid (∀ k (hk : k < got.length), ∃ g off, A12 = some ⟨g, off, none⟩ ∧ w12.cell? ⟨g, off + k, none⟩ = some (.int .u8 (got.getD k 0).toNat)) := fun k hk => by
        obtain ⟨g, off, hA, -, -, hc⟩ := HC12.out.at_
        exact ⟨g, off, hA (by omega), by rw [hc k hk]; simp [List.getD, hk]⟩
      have hcN : Hid (∀ k (hk : k < now.length), ∃ g off, A6 = some ⟨g, off, none⟩ ∧ w12.cell? ⟨g, off + k, none⟩ = some (.int .u8 (now.getD k 0).toNat)) := fun k hk => by
        obtain ⟨g, off, hA, -, -, hc⟩ := RdB.at_ HB12.out
        exact ⟨g, off, hA (by omega), by rw [hc k hk]; simp [List.getD, hk]⟩
      have hcF : Hid (∀ k (hk : k < first.length), ∃ g off, A = some ⟨g, off, none⟩ ∧ w12.cell? ⟨g, off + k, none⟩ = some (.int .u8 (first.getD k 0).toNat)) := fun k hk => by
        obtain ⟨g, off, hA, -, -, hc⟩ := RdB.at_ (HV.out.ext HG12.out)
        exact ⟨g, off, hA (by omega), by rw [hc k hk]; simp [List.getD, hk]⟩
      have hHas : Hid (∀ k : Nat, Calls Try.prog 26 #[.slice A3 keep.length c3, .int .i64 (k : Int)] w12 fun e w' => e = .returned (.bool (memI keep (k : Int))) ∧ w12 = w') := fun k => has6_any _ keep (k : Int) w12 (HV3.out.ext HG12.out) (by omega)
      clear HP12 HB12 HC12 hgf hlf
      go_wp2_with fail
      go_loop [22, 23, 24, 25] (fun i _ _ _ => ∃ k : Nat, k ≤ got.length ∧ i = .int .i64 k) (fun i _ _ _ => got.length - (intOf i).toNat)
      case atStart => exact ⟨0, by omega, rfl⟩
      case round =>
        obtain ⟨i, hi, rfl⟩ := hrel
        by_cases hlt : i < got.length
        · obtain ⟨gG, oG, hAG, hcGi⟩ := hcG.out i hlt
          subst hAG
          have hwant := HTR.out.at_ i hlt
          have HW := Lib.hid hwant
          have hi64 : i < 45056 := by omega
          clear hwant
          go_wp2_with fail
          go_loop [23, 24] (fun s kk => ∃ k : Nat, k ≤ ls.length ∧ kk = .int .i64 k ∧ s = .bool (staysB keep ls k (i / 64))) (fun _ kk => ls.length - (intOf kk).toNat)
          case atStart => exact ⟨0, by omega, rfl, rfl⟩
          case round =>
            obtain ⟨k, hk, rfl, hst⟩ := hrel
            subst hst
            by_cases hlt2 : k < ls.length
            · obtain ⟨gP, oP, hAP, hcPk⟩ := hcP.out k hlt2
              subst hAP
              have hsucc := staysB_succ (keep := keep) (q := i / 64) (List.getElem?_eq_getElem hlt2)
              have HSU := Lib.hid hsucc
              clear hsucc
              obtain ⟨p, hp⟩ : ∃ p, p = ls[k].page.toNat := ⟨_, rfl⟩
              rw [← hp] at hcPk
              have HPP := Lib.hid hp
              clear hp
              by_cases hpe : p = i / 64
              · have hbe : ((p : Int) == (i : Int) / 64) = true := by rw [beq_iff_eq]; omega
                have HPE := Lib.hid hpe
                clear hpe
                go_wp2_with fail
                refine (hHas.out k).mono ?_
                rintro e w13 ⟨rfl, rfl⟩
                cases hm : memI keep (k : Int) with
                | true =>
                  have HM := Lib.hid hm
                  clear hm
                  go_wp2
                  go_round
                  case rel => exact ⟨k + 1, by omega, by go_num, by rw [HSU.out, ← HPP.out, HPE.out, HM.out]; simp⟩
                  case measure => simp [intOf]; omega
                | false =>
                  have HM := Lib.hid hm
                  clear hm
                  go_wp2
                  go_round
                  case rel => exact ⟨k + 1, by omega, by go_num, by rw [HSU.out, ← HPP.out, HPE.out, HM.out]; simp⟩
                  case measure => simp [intOf]; omega
              · have hbe : ((p : Int) == (i : Int) / 64) = false := by rw [beq_eq_false_iff_ne]; omega
                have HPE : Hid ((p == i / 64) = false) := by
                  show _ = _
                  rw [beq_eq_false_iff_ne]; exact hpe
                clear hpe
                go_wp2
                go_round
                case rel => exact ⟨k + 1, by omega, by go_num, by rw [HSU.out, ← HPP.out, HPE.out]; simp⟩
                case measure => simp [intOf]; omega
            · obtain rfl : k = ls.length := by omega
              cases hs : staysB keep ls ls.length (i / 64) with
              | true =>
                obtain ⟨gN, oN, hAN, hcNi⟩ := hcN.out i (by omega)
                subst hAN
                have hw2 : got.getD i 0 = now.getD i 0 := by rw [HW.out]; unfold wantB; rw [if_pos hs]
                rw [hw2] at hcGi
                obtain ⟨x, hx⟩ : ∃ x, x = (now.getD i 0).toNat := ⟨_, rfl⟩
                rw [← hx] at hcGi hcNi
                have hne : ((x : Int) != (x : Int)) = false := by simp
                clear hw2 hx hs
                go_wp2
                go_round
                case rel => exact ⟨i + 1, by omega, by go_num⟩
                case measure => simp [intOf]; omega
              | false =>
                by_cases hf : i < first.length
                · obtain ⟨gF, oF, hAF, hcFi⟩ := hcF.out i hf
                  subst hAF
                  have hw2 : got.getD i 0 = first.getD i 0 := by rw [HW.out]; unfold wantB; rw [if_neg (by rw [hs]; simp), if_pos hf]
                  rw [hw2] at hcGi
                  obtain ⟨x, hx⟩ : ∃ x, x = (first.getD i 0).toNat := ⟨_, rfl⟩
                  rw [← hx] at hcGi hcFi
                  have hne : ((x : Int) != (x : Int)) = false := by simp
                  clear hw2 hx hs
                  go_wp2
                  go_round
                  case rel => exact ⟨i + 1, by omega, by go_num⟩
                  case measure => simp [intOf]; omega
                · have hw2 : got.getD i 0 = 0 := by rw [HW.out]; unfold wantB; rw [if_neg (by rw [hs]; simp), if_neg hf]
                  rw [hw2] at hcGi
                  have hcGz : w12.cell? ⟨gG, oG + i, none⟩ = some (.int .u8 0) := hcGi
                  clear hw2 hs hcGi
                  go_wp2
                  go_round
                  case rel => exact ⟨i + 1, by omega, by go_num⟩
                  case measure => simp [intOf]; omega
        · obtain rfl : i = got.length := by omega
          go_wp2_with fail
          go_loop [26] (fun i => ∃ k : Nat, k ≤ ls.length ∧ i = .int .i64 k) (fun i => ls.length - (intOf i).toNat)
          case atStart => exact ⟨0, by omega, rfl⟩
          case round =>
            obtain ⟨k, hk, rfl⟩ := hrel
            by_cases hlt2 : k < ls.length
            · obtain ⟨gP, oP, hAP, hcPk⟩ := hcP.out k hlt2
              subst hAP
              have hpb := ls[k].page.toNat_lt
              go_wp2_with fail
              refine (hHas.out k).mono ?_
              rintro e w13 ⟨rfl, rfl⟩
              cases hm : memI keep (k : Int) with
              | true =>
                have hfar := HTR.out.far k ls[k] (List.getElem?_eq_getElem hlt2) hm
                obtain ⟨p, hp⟩ : ∃ p, p = ls[k].page.toNat := ⟨_, rfl⟩
                rw [← hp] at hcPk hfar hpb
                have hpb2 : (p : Int) ≤ 5000000000 := by omega
                have hdec : decide ((got.length : Int) < min (64 * ((p : Int) + 1)) (now.length : Int)) = false := by simp; omega
                clear hp hm hfar hpb
                go_wp2
                go_round
                case rel => exact ⟨k + 1, by omega, by go_num⟩
                case measure => simp [intOf]; omega
              | false =>
                clear hm hpb
                go_wp2
                go_round
                case rel => exact ⟨k + 1, by omega, by go_num⟩
                case measure => simp [intOf]; omega
            · obtain rfl : k = ls.length := by omega
              go_wp2_with (go_at_call 15; refine (works6_any _).mono ?_; rintro e w14 ⟨rfl, g14⟩)
              go_ret
              exact ⟨rfl, gr_none HG12.out g14⟩
end Go.Proofs.Ytfbbbbekialpnaa
