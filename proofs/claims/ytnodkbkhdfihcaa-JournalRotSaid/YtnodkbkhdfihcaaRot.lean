/-
  JournalRot, the walk.
-/
import Derived.Test.YtnodkbkhdfihcaaRotR
namespace Go.Proofs.Ytnodkbkhdfihcaa
open Go.RowKit
set_option maxRecDepth 100000
set_option maxHeartbeats 400000

set_option maxHeartbeats 4000000 in
theorem rot_any (v : Value) (l : List Rc) (k : Int) (hk0 : -9223372036854775808 ≤ k ∧ k ≤ 9223372036854775807) (a : UInt16) (bs : UInt32) (w : World) (h : RdR w v l) :
    Calls Try.prog 7 #[v, .int .i64 k, .int .u16 a.toNat, .int .u32 bs.toNat] w fun e w' => e = .returned (.bool true) ∧ w.grownBy w' none := by
  obtain ⟨A, c0, rfl⟩ := h.form
  have HV := Lib.hid h
  by_cases hbig : 40 < l.length
  · clear h
    go_enter Try.func7, Try.ntmps7
    go_wp2_with (go_at_call 10; refine (works_any _).mono ?_; rintro e w1 ⟨rfl, g1⟩)
    go_ret
    exact ⟨rfl, g1⟩
  have hl : l.length ≤ 40 := by omega
  by_cases hneg : k < 0
  · clear h
    go_enter Try.func7, Try.ntmps7
    go_wp2_with (go_at_call 10; refine (works_any _).mono ?_; rintro e w1 ⟨rfl, g1⟩)
    go_ret
    exact ⟨rfl, g1⟩
  by_cases hbeh : (l.length : Int) ≤ k
  · clear h
    go_enter Try.func7, Try.ntmps7
    go_wp2_with (go_at_call 10; refine (works_any _).mono ?_; rintro e w1 ⟨rfl, g1⟩)
    go_ret
    exact ⟨rfl, g1⟩
  obtain ⟨g, off, hA, _, _, hcells⟩ := h.at_
  have HA := Lib.hid hA
  have HC := Lib.hid hcells
  clear hA hcells h
  have HNEW := Lib.hid (new_ok 1024 w (by omega))
  have HOP : Hid (∀ (wx : World) (d : Nat) (o : Own1) (c : Con), DI wx w.heap.size o d (newD 1024) c → Calls Try.prog 16 #[.pointer (some ⟨d, 0, none⟩)] wx (OpenOut o wx w.heap.size d (newD 1024))) := fun wx d o c h => open_none h (newD_idle 1024) (newD_find 1024) (by simp [newD])
  have HAD : Hid (∀ (wx : World) (d jb : Nat) (k : Nat) (hk : k < l.length), FilR w d jb l k wx → l[k].k ≠ 0 → Calls Try.prog 24 #[.pointer (some ⟨jb, 0, none⟩), .agg l[k].cells] wx fun e w' => e = .returned (.int .i64 0) ∧ FilR w d jb l (k + 1) w') := fun wx d jb k hk hr h0 => by
    obtain ⟨v, o, c, S, h1, h2, h3, h4, h5⟩ := hr
    obtain ⟨la, hf⟩ := h2.find
    have hlen : (l.take k).length = k := by rw [List.length_take]; omega
    obtain ⟨hfl, hroom⟩ := h2.room l[k] (by omega) hf
    have hsn : l.take (k + 1) = l.take k ++ [l[k]] := by rw [List.take_add_one, List.getElem?_eq_getElem hk]; rfl
    obtain ⟨hi, hq, hnl, la', ef⟩ := id h2
    refine (add_idle h1 h3 hi hf l[k] h0 (by omega) (by omega) (by omega) hroom (by rw [ef]; simp) (by omega)).mono ?_
    rintro e w' ⟨v', o', c', rfl, k1, k2, k3⟩
    refine ⟨rfl, v', o', c', _, k1, ?_, ?_, k3 w (Nat.le_refl _) h4, ?_⟩
    · rw [hsn]; exact h2.add _
    · rw [hsn]; exact k2
    · intro r hr
      rw [hsn] at hr
      rcases List.mem_append.1 hr with hr | hr
      · exact h5 r hr
      · rw [List.mem_singleton.1 hr]; exact h0
  obtain ⟨kn, rfl⟩ : ∃ kn : Nat, k = (kn : Int) := ⟨k.toNat, by omega⟩
  have hkn : kn < l.length := by omega
  go_enter Try.func7, Try.ntmps7
  go_wp2_with fail
  refine HNEW.out.mono ?_
  rintro e w1 ⟨d, o, c, rfl, h1, g1⟩
  have G1 := Lib.hid g1
  have HT1 : Hid (∀ i, o i ≠ none → w.heap.size ≤ i) := fun i hi => (h1.inb i hi).1
  have H1 := Lib.hid h1
  clear h1 g1
  go_wp2_with fail
  refine (HOP.out _ _ _ _ H1.out).mono ?_
  rintro e w2 ⟨jb, v2, o2, c2, rfl, h2, ch2, hj2⟩
  have G2 := Lib.hid (ch2.gr G1.out HT1.out)
  have H0 : Hid (FilR w d jb l 0 w2) := ⟨v2, o2, c2, _, h2, Full.open_, ⟨hj2.box, Own.mono hj2.own G1.out.size, hj2.free, Nat.le_trans G1.out.size hj2.jB, hj2.sep⟩, G2.out, fun r hr => by simp at hr⟩
  clear h2 ch2 hj2
  go_wp2_with fail
  go_loopw [12, 13] (fun i _ wr => ∃ k : Nat, k ≤ l.length ∧ i = .int .i64 k ∧ FilR w d jb l k wr) (fun i _ _ => l.length - (intOf i).toNat)
  case atStart => exact ⟨0, by omega, rfl, H0.out⟩
  case round =>
    obtain ⟨k, hk, rfl, hr⟩ := hrel
    have HR := Lib.hid hr
    clear hr
    by_cases hlt : k < l.length
    · have hg := (show FilR w d jb l k wr from HR.out)
      obtain ⟨_, _, _, _, _, _, _, hg, _⟩ := hg
      have := HA.out (by omega)
      subst this
      have HADk := Lib.hid (HAD.out wr d jb k hlt HR.out)
      rcases hx : l[k] with ⟨xa, xb, xc⟩
      obtain ⟨q0, q1, q2⟩ := at3 HC.out hg hlt hx
      by_cases h0 : xa = 0
      · subst h0
        have GR := Lib.hid hg
        clear HADk hx hg
        go_wp2_with (go_at_call 10; refine (works_any _).mono ?_; rintro e w5 ⟨rfl, g5⟩)
        go_ret
        exact ⟨rfl, gr_none GR.out g5⟩
      · have HK := Lib.hid (HADk.out (by rw [hx]; exact h0))
        rw [hx] at HK
        unfold Rc.cells at HK
        have hk0 : ((xa.toNat : Int) == 0) = false := by
          rw [beq_eq_false_iff_ne]
          intro e
          exact h0 (UInt32.toNat_inj.1 (by simpa using e))
        have GR := Lib.hid hg
        clear HADk hx hg h0
        go_wp2_with fail
        refine HK.out.mono ?_
        rintro e w5 ⟨rfl, r5⟩
        have R5 := Lib.hid r5
        clear r5
        go_wp2
        refine ⟨⟨k + 1, by omega, by congr 1, R5.out⟩, ?_⟩
        simp only [intOf]
        omega
    · have e1 : k = l.length := by omega
      subst e1
      have HST : Hid (∃ o c S, DI wr w.heap.size o d S c ∧ Full S l ∧ w.grownBy wr none ∧ ∀ r ∈ l, r.k ≠ 0) := by
        obtain ⟨_, o, c, S, k1, k2, _, k4, k5⟩ := HR.out
        rw [List.take_of_length_le (Nat.le_refl _)] at k2 k5
        exact ⟨o, c, S, k1, k2, k4, k5⟩
      clear HR
      go_wp2_with fail
      obtain ⟨f0, hf0, hf1⟩ : ∃ f0 : Nat, (wrap64 (a.toNat : Int)).tmod 481 = (f0 : Int) ∧ f0 ≤ 480 := by
        have := a.toNat_lt
        have e : wrap64 (a.toNat : Int) = (a.toNat : Int) := by unfold wrap64; omega
        rw [e, Int.tmod_eq_emod_of_nonneg (by omega)]
        exact ⟨a.toNat % 481, by omega, by omega⟩
      obtain ⟨T, hT0, hT1, hT2⟩ := u32_or_one bs.toNat bs.toNat_lt
      rw [hf0, hT0]
      clear hf0 hT0
      obtain ⟨o3, c3, S3, k1, k2, k4, k5⟩ := HST.out
      have HR0 := Lib.hid (RotR.start hkn f0 k1 k2 k4)
      have HZ := Lib.hid k5
      clear k1 k2 k4 k5
      go_loopw [16, 17, 18] (fun i _ _ wr => ∃ k : Nat, k ≤ 32 ∧ i = .int .i64 k ∧ RotR w d l kn hkn (T % 2 ^ k) f0 wr) (fun i _ _ _ => 32 - (intOf i).toNat)
      case atStart => exact ⟨0, by omega, rfl, by rw [Nat.pow_zero, Nat.mod_one]; exact HR0.out⟩
      case round =>
        obtain ⟨i, hi, rfl, hr⟩ := hrel
        have HR := Lib.hid hr
        clear hr
        by_cases hlt : i < 32
        · by_cases hb : T / 2 ^ i % 2 = 1
          · have hb1 : bits .and .u32 ((T : Int) / 2 ^ i) 1 = 1 := by rw [bit_and T i hT2, hb]; rfl
            have HF : Hid (Calls Try.prog 26 #[.pointer (some ⟨d, 0, none⟩), .string ⟨jn.toArray⟩, .int .i64 (64 * (kn : Int) + ((f0 : Int) + (i : Int)) / 8), .int .u8 (2 ^ ((f0 + i) % 8) % 256)] wr fun e w' => e = .returned (.int .i64 0) ∧ RotR w d l kn hkn (T % 2 ^ (i + 1)) f0 w') := by
              have hlt8 : 2 ^ ((f0 + i) % 8) < 256 := Nat.lt_of_lt_of_le (Nat.pow_lt_pow_right (by omega) (show (f0 + i) % 8 < 8 by omega)) (by omega)
              have hm : (UInt8.ofNat (2 ^ ((f0 + i) % 8))).toNat = 2 ^ ((f0 + i) % 8) := by rw [UInt8.toNat_ofNat_of_lt' (by show _ < 256; exact hlt8)]
              have := HR.out.flip i (by omega) _ hm
              rw [hm, ← bit_on hb] at this
              have e1 : ((64 * kn + (f0 + i) / 8 : Nat) : Int) = 64 * (kn : Int) + ((f0 : Int) + (i : Int)) / 8 := by push_cast; rfl
              have e2 : ((2 ^ ((f0 + i) % 8) : Nat) : Int) = 2 ^ ((f0 + i) % 8) % 256 := by
                have : (2 ^ ((f0 + i) % 8) : Int) = ((2 ^ ((f0 + i) % 8) : Nat) : Int) := by push_cast; rfl
                rw [this]; omega
              rw [e1, e2] at this
              exact this
            clear hb HR
            go_wp2_with fail
            refine HF.out.mono ?_
            rintro e w5 ⟨rfl, r5⟩
            have R5 := Lib.hid r5
            clear r5
            go_wp2
            refine ⟨⟨i + 1, by omega, by congr 1, R5.out⟩, ?_⟩
            simp only [intOf]
            omega
          · have hb1 : bits .and .u32 ((T : Int) / 2 ^ i) 1 = 0 := by rw [bit_and T i hT2, show T / 2 ^ i % 2 = 0 from by omega]; rfl
            have HN : Hid (RotR w d l kn hkn (T % 2 ^ (i + 1)) f0 wr) := by
              have := HR.out
              rwa [← bit_off hb] at this
            clear hb HR
            go_wp2
            refine ⟨⟨i + 1, by omega, by congr 1, HN.out⟩, ?_⟩
            simp only [intOf]
            omega
        · have e1 : i = 32 := by omega
          subst e1
          have HR2 : Hid (∃ o c S f, DI wr w.heap.size o d S c ∧ Idle S ∧ S.find jn = some f ∧ jRecs S = l.take kn ∧ w.grownBy wr none) := by
            have := HR.out
            rw [Nat.mod_eq_of_lt hT2] at this
            exact this.recs hl hf1 (by omega) hT2 HZ.out
          clear HR
          obtain ⟨o4, c4, S4, f4, k1, k2, k3, k4, k5⟩ := HR2.out
          have HOP2 := Lib.hid (open_some k1 k2 k3)
          have HJR := Lib.hid k4
          have G4 := Lib.hid k5
          have HT4 : Hid (∀ i, o4 i ≠ none → w.heap.size ≤ i) := fun i hi => (k1.inb i hi).1
          clear k1 k2 k3 k4 k5
          go_wp2_with fail
          refine HOP2.out.mono ?_
          rintro e w3 ⟨jb3, v3, o3, c3, rfl, h3, ch3, hj3⟩
          have G3 := Lib.hid (ch3.gr G4.out HT4.out)
          rw [HJR.out] at hj3
          have HRC := Lib.hid (fun wx (hx : w3.grownBy wx none) => recs_any (hj3.ch (Ch.ext hx)) (by rw [List.length_take]; omega))
          clear h3 ch3 hj3
          have hcap1 : (0 : Int) ≤ (kn : Int) := by omega
          have hcap : l.length ≤ c0 := by obtain ⟨_, _, _, _, _, e, hn, _⟩ := HV.out; cases e; exact hn
          have hcap2 : (kn : Int) ≤ (c0 : Int) := by omega
          have HSL : Hid (∀ wx : World, w.grownBy wx none → RdR wx (.slice A kn c0) (l.take kn)) := fun wx hg => (RdR.ext HV.out hg).take (by omega)
          go_wp2_with fail
          go_region_held3 (fun _ => True) (trivial) (first
            | (go_at_call 20; refine (HRC.out _ (by first | exact gr_refl _ _ | exact gr_drew _ _ | exact gr_drewN _ _ _)).mono ?_; rintro e w5 ⟨⟨v5, rfl, o5⟩, g5⟩)
            | (go_at_call 19; refine (same_any _ _ _ _ _ o5.rd (HSL.out _ (gr_none (gr_none G3.out (by first | exact gr_refl _ _ | exact gr_drew _ _ | exact gr_drewN _ _ _)) g5)) (by rw [List.length_take]; omega) (by rw [List.length_take]; omega)).mono ?_; rintro e w6 ⟨⟨b6, rfl, hb6⟩, g6⟩; obtain rfl := hb6.2 rfl)
            | (go_at_call 10; refine (works_any _).mono ?_; rintro e w7 ⟨rfl, g7⟩))
          go_wp2
          go_ret
          exact ⟨rfl, gr_none (gr_none (gr_none (gr_none G3.out (by first | exact gr_refl _ _ | exact gr_drew _ _ | exact gr_drewN _ _ _)) g5) g6) g7⟩
end Go.Proofs.Ytnodkbkhdfihcaa
