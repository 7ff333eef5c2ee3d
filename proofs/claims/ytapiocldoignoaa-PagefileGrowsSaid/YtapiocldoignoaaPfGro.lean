/-
  PagefileGrows, the walk.
-/
import Derived.Test.YtapiocldoignoaaPfTelP
namespace Go.Proofs.Ytapiocldoignoaa
open Go.RowKit
set_option maxRecDepth 100000
set_option maxHeartbeats 400000

theorem PgC.pwrite {w0 w : World} {d pf q n m : Nat} {c : List UInt8} (h : PgC w0 w d pf q n m c) {k : Nat} (hn : n ≤ 1000) (hk : k < n) (hm : m ≤ 1000000) {bv : Value} {b : List UInt8} (hb : RdB w bv b) (hb2 : b.length ≤ 240) :
    Calls Try.prog 11 #[.pointer (some ⟨pf, 0, none⟩), .int .i64 k, bv] w fun e w' => e = .returned (.int .i64 0) ∧ PgC w0 w' d pf q n (m + 1) (overZ c (256 * k) (pagB (crcS an) k b)) := by
  obtain ⟨o, cn, S, h1, h2, h3, h4⟩ := h
  obtain ⟨e0, hK⟩ := h2.write hk hn (pagB_len (tag := crcS an) (k := k) hb2)
  have hfs : S.fs.length = 1 := by obtain ⟨la, e⟩ := h2.file; rw [e]; rfl
  have hp : S.pwrite an k b = (S.wrote an (k * 256) (pagB (crcS an) k b), 0) := by
    unfold Dk.pwrite
    rw [h2.size, if_neg (by omega), if_neg (by omega), if_neg (by simp), if_neg (by simp; omega), Int.toNat_natCast, e0]
  refine (pwrite_any h1 h3 (by simp) k (by omega) bv b hb (by omega) (by omega) (by have := h2.nl; omega)).mono ?_
  rw [hp]
  rintro e w' ⟨rfl, o', c', h1', ch⟩
  exact ⟨rfl, o', c', _, h1', hK, h3.ch ch, ch.gr h4 fun i hi => (h1.inb i hi).1⟩
theorem bad_none {c : List UInt8} {n : Nat} {g : Nat → List UInt8} (h : Holds c (crcS an) n g) : badC c n = [] := by
  unfold badC
  exact filter_no n _ fun j hj => by rw [h.at_ j hj]; rfl
theorem flip_rot {c : List UInt8} {n k : Nat} {g : Nat → List UInt8} (h : Holds c (crcS an) n g) (hk : k < n) : pagO (pgA (flipL c (256 * k + 20) 255) k) (crcS an) k = none := by
  rw [pgA_flip h.len hk (by omega) hk, if_pos rfl]
  refine pagO_burst (h.at_ k hk) 255 160 (by omega) (by omega) (by omega) (by rw [flipL_len]; exact pgA_len h.len hk) ?_
  rw [rdN_flip _ _ _ (by rw [pgA_len h.len hk]; omega)]
  rfl
theorem flip_write {c : List UInt8} {n k : Nat} {g : Nat → List UInt8} (h : Holds c (crcS an) n g) (hk : k < n) (hn : n ≤ 1000) {b : List UInt8} (hb : b.length ≤ 240) : Holds (overZ (flipL c (256 * k + 20) 255) (256 * k) (pagB (crcS an) k b)) (crcS an) n (updG g k b) := by
  have hl : (flipL c (256 * k + 20) 255).length = 256 * n := by rw [flipL_len, h.len]
  have hp := pagB_len (tag := crcS an) (k := k) hb
  refine ⟨by rw [overZ_len (by omega), hl, hp]; omega, fun i hi => ?_, fun i hi => ?_⟩
  · rw [pgA_over hl hp (by omega) (by omega)]
    unfold updG
    by_cases e : i = k
    · subst e
      have ht : crcS an < 2 ^ 32 := crcE_lt _ _
      rw [if_pos rfl, if_pos rfl, pagO_made hb ht (by omega), if_pos rfl]
    · rw [if_neg e, if_neg e, pgA_flip h.len hk (by omega) hi, if_neg e]; exact h.at_ i hi
  · unfold updG
    split
    · exact hb
    · exact h.small i hi
set_option maxHeartbeats 8000000 in
theorem grows_any (v0 : Value) (ll : List (List UInt8)) (k : Int) (hk0 : -9223372036854775808 ≤ k ∧ k ≤ 9223372036854775807) (v2 : Value) (b : List UInt8) (w : World) (h0 : RdBB w v0 ll) (h2 : RdB w v2 b) :
    Calls Try.prog 7 #[v0, .int .i64 k, v2] w fun e w' => e = .returned (.bool true) ∧ w.grownBy w' none := by
  obtain ⟨A, c0, rfl⟩ := h0.form
  obtain ⟨A2, c2, rfl⟩ := h2.form
  have H0 := Lib.hid h0
  have H2 := Lib.hid h2
  clear h0 h2
  by_cases hbig : 40 < ll.length
  · go_enter Try.func7, Try.ntmps7
    go_wp2_with (go_at_call 9; refine (works_any _).mono ?_; rintro e w1 ⟨rfl, g1⟩)
    go_ret
    exact ⟨rfl, g1⟩
  have hll : ll.length ≤ 40 := by omega
  by_cases hb : 240 < b.length
  · go_enter Try.func7, Try.ntmps7
    go_wp2_with (go_at_call 9; refine (works_any _).mono ?_; rintro e w1 ⟨rfl, g1⟩)
    go_ret
    exact ⟨rfl, g1⟩
  have hb2 : b.length ≤ 240 := by omega
  have HLD := Lib.hid (laid_any _ ll w H0.out hll)
  go_enter Try.func7, Try.ntmps7
  go_wp2_with fail
  refine HLD.out.mono ?_
  rintro e w1 ⟨g1, rfl | ⟨hsm, d, pf, rfl, p1⟩⟩
  · have G1 := Lib.hid g1
    clear g1
    go_wp2_with (go_at_call 9; refine (works_any _).mono ?_; rintro e w2 ⟨rfl, g2⟩)
    go_ret
    exact ⟨rfl, gr_none G1.out g2⟩
  have P1 := Lib.hid p1
  have HPG := Lib.hid p1.pages
  clear g1 hsm p1
  go_wp2_with fail
  refine HPG.out.mono ?_
  rintro e w2 ⟨rfl, g2⟩
  have P2 := Lib.hid (P1.out.ext g2)
  obtain ⟨cc, pc, hh⟩ := (P1.out.ext g2).toC
  have HSZ := Lib.hid pc.size
  have PC2 := Lib.hid pc
  have HH := Lib.hid hh
  clear g2 pc hh
  go_wp2_with fail
  refine HSZ.out.mono ?_
  rintro e w3 ⟨rfl, g3⟩
  have P3 := Lib.hid (P2.out.ext g3)
  have PC3 := Lib.hid (PC2.out.ext g3)
  have hn1 : ((ll.length : Int) != (ll.length : Int)) = false := by simp
  have hn2 : (((256 * ll.length : Nat) : Int) != 256 * (ll.length : Int)) = false := by rw [bne_eq_false_iff_eq]; push_cast; rfl
  have hn3 : ((256 * (ll.length : Int)) != 256 * (ll.length : Int)) = false := by simp
  clear g3
  rcases (by omega : (ll.length : Int) < k ∨ k < 0 ∨ (0 ≤ k ∧ k = ll.length) ∨ (0 ≤ k ∧ k < ll.length)) with hk | hk | hk | hk
  · have HW : Hid (Calls Try.prog 11 #[.pointer (some ⟨pf, 0, none⟩), .int .i64 k, .slice A2 b.length c2] w3 fun e w' => e = .returned (.int .i64 1) ∧ PgW w w' d pf 4096 ll.length (fun i => ll.getD i []) ll.length) := PgW.writeBad P3.out (.inr hk) hk0 (by omega) (H2.out.ext P3.out.gr) hb2
    have hk1 : (0 : Int) ≤ k := by omega
    have hk2 : (ll.length : Int) ≤ k := by omega
    go_wp2_with fail
    refine HW.out.mono ?_
    rintro e w4 ⟨rfl, p4⟩
    have G4 := Lib.hid p4.gr
    clear p4
    go_wp2_with (go_at_call 9; refine (works_any _).mono ?_; rintro e w5 ⟨rfl, g5⟩)
    go_ret
    exact ⟨rfl, gr_none G4.out g5⟩
  · have hk2 : k ≤ (ll.length : Int) := by omega
    have G4 := Lib.hid P3.out.gr
    go_wp2_with (go_at_call 9; refine (works_any _).mono ?_; rintro e w5 ⟨rfl, g5⟩)
    go_ret
    exact ⟨rfl, gr_none G4.out g5⟩
  · obtain ⟨hk1, rfl⟩ := hk
    have G4 := Lib.hid P3.out.gr
    go_wp2_with (go_at_call 9; refine (works_any _).mono ?_; rintro e w5 ⟨rfl, g5⟩)
    go_ret
    exact ⟨rfl, gr_none G4.out g5⟩
  · obtain ⟨hk1, hk3⟩ := hk
    obtain ⟨kn, rfl⟩ : ∃ kn : Nat, k = (kn : Int) := ⟨k.toNat, by omega⟩
    have hkn : kn < ll.length := by omega
    have hk2 : (kn : Int) ≤ (ll.length : Int) := by omega
    have HFL : Hid (Calls Try.prog 23 #[.pointer (some ⟨d, 0, none⟩), .string ⟨an.toArray⟩, .int .i64 (256 * (kn : Int) + 20), .int .u8 255] w3 fun e w' => e = .returned (.int .i64 0) ∧ PgC w w' d pf 4096 ll.length ll.length (flipL cc (256 * kn + 20) 255)) := by
      have := PC3.out.flip (p := 256 * kn + 20) (u := 255) (by omega) (by decide)
      rw [show ((256 * kn + 20 : Nat) : Int) = 256 * (kn : Int) + 20 from by push_cast; rfl] at this
      exact this
    have HRT := Lib.hid (flip_rot HH.out hkn)
    have HFW := Lib.hid (flip_write HH.out hkn (by omega) hb2)
    have HE : Hid (∀ (wx : World) (v v' : Value) (l : List UInt8), RdB wx v l → RdB wx v' l → Calls Try.prog 15 #[v, v'] wx fun e w' => e = .returned (.bool true) ∧ wx = w') := fun wx v v' l => eqB_true
    go_wp2_with fail
    refine HFL.out.mono ?_
    rintro e w4 ⟨rfl, p4⟩
    have P4 := Lib.hid p4
    have HR4 := Lib.hid (p4.readRot (k := kn) (by omega) hkn HRT.out)
    clear p4
    go_wp2_with fail
    refine HR4.out.mono ?_
    rintro e w5 ⟨⟨v5, rfl, o5⟩, g5⟩
    have P5 := Lib.hid (P4.out.ext g5)
    have G5 := Lib.hid (P4.out.ext g5).gr
    have HCP : Hid (Calls Try.prog 12 #[.slice A2 b.length c2] w5 fun e w' => ∃ v', e = .returned v' ∧ OwnB w' w5.heap.size v' b ∧ w5.grownBy w' none) := copyBytes_any _ _ w5 (H2.out.ext G5.out) (by omega)
    clear o5 g5
    go_wp2_with fail
    refine HCP.out.mono ?_
    rintro e w6 ⟨v6, rfl, o6, g6⟩
    have HW6 := Lib.hid ((P5.out.ext g6).pwrite (k := kn) (by omega) hkn (by omega) o6.rd hb2)
    clear o6 g6
    go_wp2_with fail
    refine HW6.out.mono ?_
    rintro e w7 ⟨rfl, p7⟩
    have P7 := Lib.hid p7
    have HR7 := Lib.hid (p7.toW HFW.out |>.read (k := kn) hkn (by omega))
    have HU : Hid (updG (fun i => ll.getD i []) kn b kn = b) := by show _ = _; simp [updG]
    rw [HU.out] at HR7
    clear p7
    go_wp2_with fail
    refine HR7.out.mono ?_
    rintro e w8 ⟨⟨v8, rfl, o8⟩, g8⟩
    have P8 := Lib.hid (P7.out.ext g8)
    have O8 := Lib.hid o8
    have hbd := (P7.out.ext g8).bad
    rw [bad_none HFW.out] at hbd
    have HBD := Lib.hid hbd
    clear o8 g8 hbd
    go_wp2_with fail
    refine HBD.out.mono ?_
    rintro e w9 ⟨⟨v9, rfl, r9⟩, g9⟩
    have r9' : Rd w9 1 v9 0 [] := r9
    obtain ⟨_, A9, c9, _, _, rfl, _⟩ := r9'
    have G9 := Lib.hid (P8.out.ext g9).gr
    have HE9 := Lib.hid (HE.out _ _ _ b (O8.out.ext g9).rd (H2.out.ext G9.out))
    clear r9 g9
    go_wp2_with (first
      | (go_at_call 15; refine HE9.out.mono ?_; rintro e w10 ⟨rfl, rfl⟩)
      | (go_at_call 9; refine (works_any _).mono ?_; rintro e w11 ⟨rfl, g11⟩))
    go_ret
    exact ⟨rfl, gr_none G9.out g11⟩
end Go.Proofs.Ytapiocldoignoaa
