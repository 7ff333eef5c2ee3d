/-
  PagefileTells, the walk.
-/
import Derived.Test.YtapiocldoignoaaPfTelP
namespace Go.Proofs.Ytapiocldoignoaa
open Go.RowKit
set_option maxRecDepth 100000
set_option maxHeartbeats 400000

set_option maxHeartbeats 8000000 in
theorem tells_any (v0 : Value) (ll : List (List UInt8)) (k : Int) (hk0 : -9223372036854775808 ≤ k ∧ k ≤ 9223372036854775807) (a : UInt16) (bs : UInt32) (w : World) (h0 : RdBB w v0 ll) :
    Calls Try.prog 6 #[v0, .int .i64 k, .int .u16 a.toNat, .int .u32 bs.toNat] w fun e w' => e = .returned (.bool true) ∧ w.grownBy w' none := by
  obtain ⟨A, c0, rfl⟩ := h0.form
  have H0 := Lib.hid h0
  by_cases hbig : 40 < ll.length
  · clear h0
    go_enter Try.func6, Try.ntmps6
    go_wp2_with (go_at_call 9; refine (works_any _).mono ?_; rintro e w1 ⟨rfl, g1⟩)
    go_ret
    exact ⟨rfl, g1⟩
  have hll : ll.length ≤ 40 := by omega
  by_cases hneg : k < 0
  · clear h0
    go_enter Try.func6, Try.ntmps6
    go_wp2_with (go_at_call 9; refine (works_any _).mono ?_; rintro e w1 ⟨rfl, g1⟩)
    go_ret
    exact ⟨rfl, g1⟩
  by_cases hbeh : (ll.length : Int) ≤ k
  · clear h0
    go_enter Try.func6, Try.ntmps6
    go_wp2_with (go_at_call 9; refine (works_any _).mono ?_; rintro e w1 ⟨rfl, g1⟩)
    go_ret
    exact ⟨rfl, g1⟩
  obtain ⟨g, off, hA, hc, hcm, hcells⟩ := h0.at_
  obtain rfl := hA (by omega)
  have HC := Lib.hid hcells
  unfold maxLen at hcm
  clear h0 hA hcells
  have HLD := Lib.hid (laid_any _ ll w H0.out hll)
  obtain ⟨kn, rfl⟩ : ∃ kn : Nat, k = (kn : Int) := ⟨k.toNat, by omega⟩
  have hkn : kn < ll.length := by omega
  have hknI : (kn : Int) < (ll.length : Int) := by omega
  have hkn0 : (0 : Int) ≤ (kn : Int) := by omega
  have HE : Hid (∀ (wx : World) (v v' : Value) (l : List UInt8), RdB wx v l → RdB wx v' l → Calls Try.prog 15 #[v, v'] wx fun e w' => e = .returned (.bool true) ∧ wx = w') := fun wx v v' l => eqB_true
  go_enter Try.func6, Try.ntmps6
  go_wp2_with fail
  refine HLD.out.mono ?_
  rintro e w1 ⟨g1, rfl | ⟨hsm, d, pf, rfl, p1⟩⟩
  · have G1 := Lib.hid g1
    clear g1
    go_wp2_with (go_at_call 9; refine (works_any _).mono ?_; rintro e w2 ⟨rfl, g2⟩)
    go_ret
    exact ⟨rfl, gr_none G1.out g2⟩
  obtain ⟨cc, pc, hh⟩ := p1.toC
  have P1 := Lib.hid pc
  have HH := Lib.hid hh
  clear g1 p1 hsm pc hh
  go_wp2_with fail
  obtain ⟨f0, hf0, hf1⟩ : ∃ f0 : Nat, (wrap64 (a.toNat : Int)).tmod 2017 = (f0 : Int) ∧ f0 ≤ 2016 := by
    have := a.toNat_lt
    have e : wrap64 (a.toNat : Int) = (a.toNat : Int) := by unfold wrap64; omega
    rw [e, Int.tmod_eq_emod_of_nonneg (by omega)]
    exact ⟨a.toNat % 2017, by omega, by omega⟩
  obtain ⟨T, hT0, hT1, hT2⟩ := u32_or_one bs.toNat bs.toNat_lt
  rw [hf0, hT0]
  clear hf0 hT0
  have HR0 := Lib.hid (TelR.start kn f0 P1.out)
  go_loopw [14, 15, 16] (fun i _ _ wr => ∃ k : Nat, k ≤ 32 ∧ i = .int .i64 k ∧ TelR w d pf ll.length cc kn (T % 2 ^ k) f0 wr) (fun i _ _ _ => 32 - (intOf i).toNat)
  case atStart => exact ⟨0, by omega, rfl, by rw [Nat.pow_zero, Nat.mod_one]; exact HR0.out⟩
  case round =>
    obtain ⟨i, hi, rfl, hr⟩ := hrel
    have HR := Lib.hid hr
    clear hr
    by_cases hlt : i < 32
    · by_cases hb : T / 2 ^ i % 2 = 1
      · have hb1 : bits .and .u32 ((T : Int) / 2 ^ i) 1 = 1 := by rw [bit_and T i hT2, hb]; rfl
        have HF : Hid (Calls Try.prog 23 #[.pointer (some ⟨d, 0, none⟩), .string ⟨an.toArray⟩, .int .i64 (256 * (kn : Int) + ((f0 : Int) + (i : Int)) / 8), .int .u8 (2 ^ ((f0 + i) % 8) % 256)] wr fun e w' => e = .returned (.int .i64 0) ∧ TelR w d pf ll.length cc kn (T % 2 ^ (i + 1)) f0 w') := by
          have hlt8 : 2 ^ ((f0 + i) % 8) < 256 := Nat.lt_of_lt_of_le (Nat.pow_lt_pow_right (by omega) (show (f0 + i) % 8 < 8 by omega)) (by omega)
          have hm : (UInt8.ofNat (2 ^ ((f0 + i) % 8))).toNat = 2 ^ ((f0 + i) % 8) := by rw [UInt8.toNat_ofNat_of_lt' (by show _ < 256; exact hlt8)]
          have := HR.out.flip hkn i (by omega) _ hm
          rw [hm, ← bit_on hb] at this
          have e1 : ((256 * kn + (f0 + i) / 8 : Nat) : Int) = 256 * (kn : Int) + ((f0 : Int) + (i : Int)) / 8 := by push_cast; rfl
          have e2 : ((2 ^ ((f0 + i) % 8) : Nat) : Int) = 2 ^ ((f0 + i) % 8) % 256 := by
            have : (2 ^ ((f0 + i) % 8) : Int) = ((2 ^ ((f0 + i) % 8) : Nat) : Int) := by push_cast; rfl
            rw [this]; omega
          rw [e1, e2] at this
          exact this
        clear hb HR
        go_wp2_with fail
        refine HF.out.mono ?_
        rintro e w5 ⟨rfl, r5⟩
        have R5 := Lib.hid r5
        clear r5
        go_wp2
        refine ⟨⟨i + 1, by omega, by congr 1, R5.out⟩, ?_⟩
        simp only [intOf]
        omega
      · have hb1 : bits .and .u32 ((T : Int) / 2 ^ i) 1 = 0 := by rw [bit_and T i hT2, show T / 2 ^ i % 2 = 0 from by omega]; rfl
        have HN : Hid (TelR w d pf ll.length cc kn (T % 2 ^ (i + 1)) f0 wr) := by
          have := HR.out
          rwa [← bit_off hb] at this
        clear hb HR
        go_wp2
        refine ⟨⟨i + 1, by omega, by congr 1, HN.out⟩, ?_⟩
        simp only [intOf]
        omega
    · have e1 : i = 32 := by omega
      subst e1
      have HR2 : Hid (∃ c', PgC w wr d pf 4096 ll.length ll.length c' ∧ badC c' ll.length = [kn] ∧ pagO (pgA c' kn) (crcS an) kn = none ∧ ∀ j, j < ll.length → j ≠ kn → pagO (pgA c' j) (crcS an) j = some (ll.getD j [])) := by
        have := HR.out
        rw [Nat.mod_eq_of_lt hT2] at this
        exact this.told HH.out hkn (by omega) hT2 hf1
      clear HR
      obtain ⟨c', p2, b2, n2, o2⟩ := HR2.out
      have P2 := Lib.hid p2
      have N2 := Lib.hid n2
      have O2 := Lib.hid o2
      have hbd := p2.bad
      rw [b2] at hbd
      have HBD := Lib.hid hbd
      clear p2 b2 n2 o2 hbd HR2
      go_wp2_with fail
      refine HBD.out.mono ?_
      rintro e w4 ⟨⟨v4, rfl, r4⟩, g4⟩
      have P4 := Lib.hid (P2.out.ext g4)
      have r4' : Rd w4 1 v4 1 [.int .i64 (kn : Int)] := r4
      clear r4
      obtain ⟨_, A4, c4, g4', off4, rfl, hn4, hm4, _, hA4, hx4⟩ := r4'
      obtain rfl := hA4 (by omega)
      have hcl : w4.cell? ⟨g4', off4, none⟩ = some (.int .i64 (kn : Int)) := by have := hx4 0 (by omega); simpa using this
      have hne3 : ((kn : Int) != (kn : Int)) = false := by simp
      clear hx4 hA4 g4
      go_wp2
      obtain ⟨wo, rfl⟩ : ∃ wo : World, wo = wr := ⟨_, rfl⟩
      go_loopw [19, 20, 21] (fun i _ _ wr => ∃ j : Nat, j ≤ ll.length ∧ i = .int .i64 j ∧ PgC w wr d pf 4096 ll.length ll.length c') (fun i _ _ _ => ll.length - (intOf i).toNat)
      case atStart => exact ⟨0, by omega, rfl, P4.out⟩
      case round =>
        obtain ⟨j, hj, rfl, hp⟩ := hrel
        have HP := Lib.hid hp
        clear hp
        by_cases hjl : j < ll.length
        · by_cases hjk : j = kn
          · subst hjk
            have HRD := Lib.hid (HP.out.readRot (by omega) hjl N2.out)
            have hne4 : ((j : Int) == (j : Int)) = true := by simp
            go_wp2_with fail
            refine HRD.out.mono ?_
            rintro e w5 ⟨⟨v5, rfl, o5⟩, g5⟩
            have P5 := Lib.hid (HP.out.ext g5)
            obtain ⟨A5, c5, rfl⟩ := o5.rd.form
            clear o5 g5
            go_wp2
            refine ⟨⟨j + 1, by omega, by congr 1, P5.out⟩, ?_⟩
            simp only [intOf]
            omega
          · have HRD := Lib.hid (HP.out.readOk (by omega) hjl (O2.out j hjl hjk))
            have hne4 : ((j : Int) == (kn : Int)) = false := by rw [beq_eq_false_iff_ne]; omega
            have GR := Lib.hid HP.out.gr
            obtain ⟨Ai, ci, hci, hri⟩ := HC.out j hjl
            have HCW : Hid (∀ wx : World, wr.grownBy wx none → wx.cell? ⟨g, off + j, none⟩ = some (.slice Ai (ll.getD j []).length ci)) := fun wx hg => (gr_none GR.out hg).cell hci (by simp)
            have HRI : Hid (∀ wx : World, wr.grownBy wx none → RdB wx (.slice Ai (ll.getD j []).length ci) (ll.getD j [])) := fun wx hg => hri.ext (gr_none GR.out hg)
            clear hci hri hjk
            generalize ll.getD j [] = bj at HRD HCW HRI
            go_wp2_with fail
            refine HRD.out.mono ?_
            rintro e w5 ⟨⟨v5, rfl, o5⟩, g5⟩
            have hcw := HCW.out w5 g5
            have HE5 := Lib.hid (HE.out _ _ _ bj o5.rd (HRI.out _ g5))
            have P5 := Lib.hid (HP.out.ext g5)
            clear o5 g5
            go_wp2_with fail
            refine HE5.out.mono ?_
            rintro e w6 ⟨rfl, rfl⟩
            go_wp2
            refine ⟨⟨j + 1, by omega, by congr 1, P5.out⟩, ?_⟩
            simp only [intOf]
            omega
        · have e1 : j = ll.length := by omega
          subst e1
          have G6 := Lib.hid HP.out.gr
          go_wp2_with (go_at_call 9; refine (works_any _).mono ?_; rintro e w7 ⟨rfl, g7⟩)
          go_ret
          exact ⟨rfl, gr_none G6.out g7⟩
end Go.Proofs.Ytapiocldoignoaa
