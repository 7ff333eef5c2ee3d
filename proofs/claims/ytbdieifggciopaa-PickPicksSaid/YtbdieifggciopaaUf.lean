/-
  slices.Sort at []uint32: bits.Len; breakPatterns.
-/
import Derived.Test.YtbdieifggciopaaUe
import Derived.Sort.LotD5
import Derived.Shelf.Small.Bits
namespace Go.Proofs.Ytbdieifggciopaa
open Go.RowKit
set_option maxRecDepth 100000
set_option maxHeartbeats 400000

def Try.laysLen_ren : Go.Shelf.Ren := ⟨fun | 125 => 28 | 128 => 40 | 129 => 41 | n => n, fun | 3 => 3 | 4 => 4 | 5 => 5 | 9 => 9 | 46 => 55 | 51 => 30 | 53 => 31 | n => n, fun n => n⟩
theorem Try.laysLen : Go.Proofs.Lays.n125 Try.prog Try.laysLen_ren := {
  mixed := by kernel_rfl
  f125 := Try.func28.trans (congrArg some (by kernel_rfl))
  f128 := Try.func40.trans (congrArg some (by kernel_rfl))
  f129 := Try.func41.trans (congrArg some (by kernel_rfl))
  t3 := Try.underlying3
  a3 := Try.isAgg3
  z3 := Try.sizeOf3
  v3 := Try.zeroValue3
  t4 := Try.underlying4
  a4 := Try.isAgg4
  z4 := Try.sizeOf4
  v4 := Try.zeroValue4
  t5 := Try.underlying5
  a5 := Try.isAgg5
  z5 := Try.sizeOf5
  v5 := Try.zeroValue5
  t9 := Try.underlying9
  a9 := Try.isAgg9
  z9 := Try.sizeOf9
  v9 := Try.zeroValue9
  t46 := Try.underlying55
  a46 := Try.isAgg55
  z46 := Try.sizeOf55
  v46 := Try.zeroValue55
  t51 := Try.underlying30
  a51 := Try.isAgg30
  z51 := Try.sizeOf30
  v51 := Try.zeroValue30
  t53 := Try.underlying31
  a53 := Try.isAgg31
  z53 := Try.sizeOf31
  v53 := Try.zeroValue31
}
theorem bitsLen_le63 {n : Nat} (hn : n < 4611686018427387904) : Go.Sort.bitsLen n ≤ 62 := (Go.Sort.bitsLen_le_iff n 62).2 (by omega)
theorem lenU (n : Nat) (hn : n < 4611686018427387904) (w : World) : Calls Try.prog 28 #[.int .u64 n] w fun e w' => e = .returned (.int .i64 (Go.Sort.bitsLen n : Nat)) ∧ w' = w := by
  have h := Any.bits_Len Try.laysLen (n : Int) w (by omega) (by omega)
  rwa [Int.toNat_natCast, bitLen_eq _ (by omega)] at h
theorem nextPowU (n : Nat) (hn : n < 4611686018427387904) (w : World) : Calls Try.prog 43 #[.int .i64 n] w fun e w' => e = .returned (.int .u64 ((1 <<< Go.Sort.bitsLen n : Nat) : Int)) ∧ w' = w := by
  have HL := Lib.hid (lenU n hn)
  have hk := bitsLen_le63 hn
  have hp := wrap_two_pow (Go.Sort.bitsLen n) hk
  go_enter Try.func43, Try.ntmps43
  go_wp2_with (go_at_call 28; refine (HL.out _).mono ?_; rintro e w' ⟨rfl, rfl⟩)
  go_ret
  exact ⟨rfl, rfl⟩
set_option maxHeartbeats 4000000 in
/-- the generator's step: its cell holds the next number, that is told. -/
theorem nextU (b X : Nat) (hX : X < 18446744073709551616) (w : World) (hc : w.cell? ⟨b, 0, none⟩ = some (.int .u64 X)) (hf : w.frozen? ⟨b, 0, none⟩ = false) :
    Calls Try.prog 44 #[.pointer (some ⟨b, 0, none⟩)] w fun e w' => e = .returned (.int .u64 (Go.Sort.xorNextN X : Nat)) ∧ ∃ q, w' = (w.setCell ⟨b, 0, none⟩ (.int .u64 (Go.Sort.xorNextN X : Nat))).drewN q := by
  obtain ⟨A, hA⟩ : ∃ A : Nat, A = X ^^^ (X * 8192 % 18446744073709551616) := ⟨_, rfl⟩
  obtain ⟨B, hB⟩ : ∃ B : Nat, B = A ^^^ (A / 128) := ⟨_, rfl⟩
  obtain ⟨C, hC⟩ : ∃ C : Nat, C = B ^^^ (B * 131072 % 18446744073709551616) := ⟨_, rfl⟩
  have hv : Go.Sort.xorNextN X = C := by rw [hC, hB, hA]; rfl
  have lA : A < 18446744073709551616 := by rw [hA]; exact Nat.xor_lt_two_pow (n := 64) (by omega) (by omega)
  have lB : B < 18446744073709551616 := by rw [hB]; exact Nat.xor_lt_two_pow (n := 64) (by omega) (by omega)
  have e1 : bits .xor .u64 (X : Int) (IntKind.u64.wrap ((X : Int) * 8192)) = (A : Int) := by
    rw [IntKind.wrap_u64, show ((X : Int) * 8192 % 18446744073709551616) = ((X * 8192 % 18446744073709551616 : Nat) : Int) by omega, bits_xor_u64_nat _ _ hX (by omega), hA]
  have e2 : bits .xor .u64 (A : Int) ((A : Int) / 128) = (B : Int) := by
    rw [show ((A : Int) / 128) = ((A / 128 : Nat) : Int) by omega, bits_xor_u64_nat _ _ lA (by omega), hB]
  have e3 : bits .xor .u64 (B : Int) (IntKind.u64.wrap ((B : Int) * 131072)) = (C : Int) := by
    rw [IntKind.wrap_u64, show ((B : Int) * 131072 % 18446744073709551616) = ((B * 131072 % 18446744073709551616 : Nat) : Int) by omega, bits_xor_u64_nat _ _ lB (by omega), hC]
  rw [hv]
  clear hA hB hC hv hX lA lB
  have hss : ∀ v v', (w.setCell ⟨b, 0, none⟩ v).setCell ⟨b, 0, none⟩ v' = w.setCell ⟨b, 0, none⟩ v' := setCell_setCell w b 0
  go_enter Try.func44, Try.ntmps44
  go_wp2
  go_region
  all_goals go_wp2
  all_goals go_region
  all_goals go_wp2
  all_goals go_region
  all_goals go_wp2
  go_ret
  exact ⟨rfl, 3, rfl⟩
/-- a store into a block behind the world that we began with. -/
theorem At32.setNew {w0 w : World} {g off n : Nat} {d : Array UInt32} (h : At32 w0 g off n d w) (hg : g < w0.heap.size) {b o : Nat} (hb : w0.heap.size ≤ b) (v : Value) : At32 w0 g off n d (w.setCell ⟨b, o, none⟩ v) := by
  obtain ⟨h1, h2, h3, m, os, h4⟩ := h
  refine ⟨h1, fun j hj => ?_, ?_, m, ?_⟩
  · obtain ⟨k1, k2⟩ := h2 j hj
    refine ⟨?_, by rw [World.frozen?_setCell]; exact k2⟩
    rw [World.cell?_setCell_other _ _ _ _ (by intro e; injection e with e1; omega)]
    exact k1
  · simpa [World.setCell] using h3
  · rw [h4, Go.Sort.setCell_eq, Go.Sort.mapBlock_grow_new _ _ _ _ (by simpa using hb)]
    exact ⟨_, rfl⟩
theorem At32.drew1 {w0 w : World} {g off n : Nat} {d : Array UInt32} (h : At32 w0 g off n d w) : At32 w0 g off n d w.drew := h.drew
set_option maxHeartbeats 8000000 in
theorem breakU (g off cap a L n : Nat) (d : Array UInt32) (w : World) (h : At32 w g off n d w) (hb : a + L ≤ n) (hn : n < 4611686018427387904) (h8 : 8 ≤ L) :
    Calls Try.prog 33 #[.slice (some ⟨g, off, none⟩) n cap, .int .i64 a, .int .i64 ((a : Int) + L)] w fun e w' => e = .returned (.tuple #[]) ∧ At32 w g off n (Go.Sort.breakPatterns d a (a + L)) w' := by
  have HG0 := Lib.hid h.2.2.1
  rw [breakPatterns_eq d a L h8]
  obtain ⟨M, hM⟩ : ∃ M : Nat, M = 1 <<< Go.Sort.bitsLen L := ⟨_, rfl⟩
  have hM1 : 1 ≤ M := by rw [hM, Nat.one_shiftLeft]; exact Nat.two_pow_pos _
  have hM2 : M ≤ 2 * L := by rw [hM, Nat.one_shiftLeft]; exact Go.Sort.two_pow_bitsLen_le (by omega)
  have HN : Hid (∀ w, Calls Try.prog 43 #[.int .i64 L] w fun e w' => e = .returned (.int .u64 (M : Int)) ∧ w' = w) := by rw [hM]; exact nextPowU L (by omega)
  rw [← hM]
  clear hM
  obtain ⟨q, hq⟩ : ∃ q, q = L / 4 := ⟨_, rfl⟩
  have hq4 : q * 4 ≤ L := by omega
  have hq2 : 2 ≤ q := by omega
  have e0 : ((a : Int) + (L : Int) - (a : Int)) = (L : Int) := by omega
  have e4 : ((L : Int).tdiv 4) = (q : Int) := by rw [Int.tdiv_eq_ediv_of_nonneg (by omega), hq]; simp
  rw [← hq]
  obtain ⟨i0, hi0⟩ : ∃ i0, i0 = a + q * 2 - 1 := ⟨_, rfl⟩
  have hi1 : i0 + 1 = a + q * 2 := by omega
  rw [← hi0]
  clear hi0
  have HST : Hid (At32 w g off n d (w.alloc (.cells #[.int .u64 (L : Int)] 70))) := h.same h.2.2.1 ⟨0, _, Go.Sort.alloc_eq_grow _ _⟩
  have HBK : Hid (Blk (w.alloc (.cells #[.int .u64 (L : Int)] 70)) w.heap.size 70 #[.int .u64 (L : Int)]) := Blk.new _ _ _
  clear h hq
  go_enter Try.func33, Try.ntmps33
  go_wp2_with (go_at_call 43; refine (HN.out _).mono ?_; rintro e w' ⟨rfl, rfl⟩)
  go_loopw [9] (fun vi wr => ∃ (x t : Nat) (r : UInt64) (dk : Array UInt32), vi = .int .i64 x ∧ x = i0 + t ∧ t ≤ 3 ∧ Hid (At32 w g off n dk wr) ∧ Hid (Blk wr w.heap.size 70 #[.int .u64 r.toNat]) ∧
      Hid (bpRest a L M i0 (3 - t) t (r, dk) = bpRest a L M i0 3 0 (UInt64.ofNat L, d))) (fun vi _ => i0 + 3 - (intOf vi).toNat)
  case atStart => exact ⟨i0, 0, UInt64.ofNat L, d, by congr 1; omega, rfl, by omega, HST, by
    have e : (UInt64.ofNat L).toNat = L := by simp; omega
    rw [e]; exact HBK, Lib.hid rfl⟩
  case round =>
    obtain ⟨x, t, r, dk, rfl, hx, ht, hat, hbk, hR⟩ := hrel
    have HX := Lib.hid hx
    by_cases ht3 : t < 3
    · have hxn : x < n := by omega
      have hle : (x : Int) ≤ (a : Int) + (q : Int) * 2 + 1 := by omega
      clear hx
      obtain ⟨R, hRr⟩ : ∃ R : Nat, R = r.toNat := ⟨_, rfl⟩
      have lR : R < 18446744073709551616 := by rw [hRr]; exact r.toNat_lt
      obtain ⟨R', hR'⟩ : ∃ R' : Nat, R' = Go.Sort.xorNextN R := ⟨_, rfl⟩
      have lR' : R' < 18446744073709551616 := by rw [hR']; exact Go.Sort.xorNextN_lt R lR
      obtain ⟨O, hO⟩ : ∃ O : Nat, O = R' &&& (M - 1) := ⟨_, rfl⟩
      have lO : O ≤ M - 1 := by rw [hO]; exact Nat.and_le_right
      have eAnd : bits .and .u64 (R' : Int) ((M : Int) - 1) = (O : Int) := by
        rw [show ((M : Int) - 1) = ((M - 1 : Nat) : Int) by omega, bits_and_u64_nat _ _ lR' (by omega), hO]
      obtain ⟨G, hG, -, -⟩ := hat.out.cells
      have HG := Lib.hid hG
      have HNX : Hid (Calls Try.prog 44 #[.pointer (some ⟨w.heap.size, 0, none⟩)] wr fun e w' => e = .returned (.int .u64 (R' : Int)) ∧ At32 w g off n dk w' ∧ Blk w' w.heap.size 70 #[.int .u64 (R' : Int)]) := by
        refine (nextU w.heap.size R lR wr (by rw [hbk.out.cell, hRr]; rfl) (hbk.out.frozen _)).mono ?_
        rintro e w' ⟨rfl, q, rfl⟩
        rw [hR']
        exact ⟨rfl, (hat.out.setNew HG0.out (Nat.le_refl _) _).drewN q, (hbk.out.set 0 _).ext (gr_drewN _ _ _)⟩
      have HNB : Hid (R' = (Go.Sort.xorNext r).toNat ∧ O = (Go.Sort.xorNext r).toNat &&& (M - 1)) := by
        have e : R' = (Go.Sort.xorNext r).toNat := by rw [hR', hRr, Go.Sort.xorNext_toNat]
        exact ⟨e, by rw [hO, e]⟩
      clear hG hRr hR' hO hbk hat lR lR'
      have lO2 : O < 2 * L := by omega
      go_wp2_with fail
      refine HNX.out.mono ?_
      rintro e wz ⟨rfl, hat2, hbk2⟩
      have hat := Lib.hid hat2
      have hbk := Lib.hid hbk2
      obtain ⟨hcw, hfw⟩ := hat2.cw HG.out
      clear hat2 hbk2 HNX
      by_cases hLO : L ≤ O
      · obtain ⟨o, rfl⟩ : ∃ o, O = L + o := ⟨O - L, by omega⟩
        have HE := Lib.hid (bp_step a L M i0 t r dk o ht3 (by rw [← HNB.out.2, if_pos hLO]; omega))
        rw [← HX.out] at HE
        have eO : (L : Int) + (o : Int) - (L : Int) = (o : Int) := by omega
        have eL : (L : Int) ≤ (L : Int) + (o : Int) := by omega
        obtain ⟨v', hy'⟩ := cell?_setCell_some (w := wz) (p := ⟨g, off + x, none⟩) (x := .int .u32 (G (a + o))) (q := ⟨g, off + (a + o), none⟩) (hcw (a + o) (by omega))
        have HSW := Lib.hid (hat.out.swap (i := x) (j := a + o) (by omega) (by omega) HG0.out (HG.out _) (HG.out _)).drew
        have HBS := Lib.hid (((hbk.out.far (p := ⟨g, off + x, none⟩) (Nat.ne_of_gt HG0.out) (.int .u32 (G (a + o)))).far (p := ⟨g, off + (a + o), none⟩) (Nat.ne_of_gt HG0.out) (.int .u32 (G x))).ext (gr_drew _ none))
        have HRX := Lib.hid (HE.out.symm.trans hR.out)
        clear hR HE
        go_wp2_with fail
        go_region
        all_goals go_wp2
        go_roundw
        case rel => exact ⟨x + 1, t + 1, Go.Sort.xorNext r, _, by go_num, by have := HX.out; omega, by omega, HSW, by rw [← HNB.out.1]; exact HBS, HRX⟩
        case measure => simp [intOf]; omega
      · have HE := Lib.hid (bp_step a L M i0 t r dk O ht3 (by rw [← HNB.out.2, if_neg hLO]))
        rw [← HX.out] at HE
        have eL : ¬ (L : Int) ≤ (O : Int) := by omega
        obtain ⟨v', hy'⟩ := cell?_setCell_some (w := wz) (p := ⟨g, off + x, none⟩) (x := .int .u32 (G (a + O))) (q := ⟨g, off + (a + O), none⟩) (hcw (a + O) (by omega))
        have HSW := Lib.hid (hat.out.swap (i := x) (j := a + O) (by omega) (by omega) HG0.out (HG.out _) (HG.out _)).drew
        have HBS := Lib.hid (((hbk.out.far (p := ⟨g, off + x, none⟩) (Nat.ne_of_gt HG0.out) (.int .u32 (G (a + O)))).far (p := ⟨g, off + (a + O), none⟩) (Nat.ne_of_gt HG0.out) (.int .u32 (G x))).ext (gr_drew _ none))
        have HRX := Lib.hid (HE.out.symm.trans hR.out)
        clear hR HE
        go_wp2_with fail
        go_region
        all_goals go_wp2
        go_roundw
        case rel => exact ⟨x + 1, t + 1, Go.Sort.xorNext r, _, by go_num, by have := HX.out; omega, by omega, HSW, by rw [← HNB.out.1]; exact HBS, HRX⟩
        case measure => simp [intOf]; omega
    · obtain rfl : t = 3 := by omega
      go_wp2
      go_end0
      refine ⟨rfl, ?_⟩
      rw [← hR.out]
      exact hat.out
end Go.Proofs.Ytbdieifggciopaa
