/-
  rawMeant of law08, kind by kind (printed by wip/tools/gen_raw.py).
-/
import Derived.Test.YtipankjajdpiiaaGreatRw
import Derived.Test.YtipankjajdpiiaaGreatOp
import Derived.Test.YtipankjajdpiiaaGreatBad2
import Derived.Test.YtipankjajdpiiaaGreatLd
namespace Go.Proofs.YtipankjajdpiiaaGreat
open Go.RowKit Go.Maps
set_option maxRecDepth 100000
set_option maxHeartbeats 2000000

def RawR (w0 : World) (r : Nat) (O : Own1) (w : World) (X : RD × Nat) (e : Ending) (w' : World) : Prop := e = .returned (.int .i64 X.2) ∧ RSn w0 r O X.1 w w'
section
variable {w0 w w' W : World} {d r : Nat} {S : Dk} {R : RD} {O o : Own1} {Ad Ae : Option Addr} {nd cd ne ce : Nat} {nm : List UInt8}
theorem rawm_1 (h : RS w0 w r O R) (hup : Up R) (hn : nm.length ≤ 1000000000) (into : List UInt8) (off n : Int) (m : UInt8)  :
    Calls Tryz.prog 61 #[.pointer (some ⟨r, 0, none⟩), .agg #[.int .i64 1, .string ⟨nm.toArray⟩, .string ⟨into.toArray⟩, .int .i64 off, .int .i64 n, .slice Ad nd cd, .int .u8 m.toNat, .slice Ae ne ce]] w (RawR w0 r O w (R.remove nm)) := by
  obtain ⟨W, hW⟩ : ∃ W, W = w.alloc (.cells #[.int .i64 1, .string ⟨nm.toArray⟩, .string ⟨into.toArray⟩, .int .i64 off, .int .i64 n, .slice Ad nd cd, .int .u8 m.toNat, .slice Ae ne ce] 61) := ⟨_, rfl⟩
  have hg : w.grownBy W none := by rw [hW]; exact gr_alloc _ _ none
  have hb : Blk W w.heap.size 61 #[.int .i64 1, .string ⟨nm.toArray⟩, .string ⟨into.toArray⟩, .int .i64 off, .int .i64 n, .slice Ad nd cd, .int .u8 m.toNat, .slice Ae ne ce] := by rw [hW]; exact Blk.new w _ _
  have hbc := hb.cell
  rw [hW] at hbc
  have HW : Hid (w.alloc (.cells #[.int .i64 1, .string ⟨nm.toArray⟩, .string ⟨into.toArray⟩, .int .i64 off, .int .i64 n, .slice Ad nd cd, .int .u8 m.toNat, .slice Ae ne ce] 61) = W) := hW.symm
  have HA := Lib.hid (rremove_any (h.ext hg) hup.nodup nm hn)
  have HGO : Hid (Ch O w O W) := Ch.ext hg
  obtain ⟨Y, hY⟩ : ∃ Y, Y = (R.remove nm) := ⟨_, rfl⟩
  rw [← hY] at HA ⊢
  clear h hb hW hg hY hn
  go_enter Tryz.func61, Tryz.ntmps61
  go_wp2_with fail
  rw [HW.out]
  refine HA.out.mono ?_
  rintro e w1 ⟨rfl, o1, k1, k2⟩
  have K1 := Lib.hid k1
  have K2 : Hid (Ch O w o1 w1) := HGO.out.trans k2
  clear k1 k2
  go_wp2_with fail
  go_ret
  exact ⟨rfl, o1, K1.out, K2.out⟩
theorem rawm_3 (h : RS w0 w r O R) (hup : Up R) (hn : nm.length ≤ 1000000000) (into : List UInt8) (off n : Int) (m : UInt8) (hoff : -9223372036854775808 ≤ off ∧ off ≤ 9223372036854775807) {bs : List UInt8} (hnd : nd = bs.length) (hb0 : RdB w0 (.slice Ad bs.length cd) bs) (hbl : bs.length ≤ 100000000) :
    Calls Tryz.prog 61 #[.pointer (some ⟨r, 0, none⟩), .agg #[.int .i64 3, .string ⟨nm.toArray⟩, .string ⟨into.toArray⟩, .int .i64 off, .int .i64 n, .slice Ad nd cd, .int .u8 m.toNat, .slice Ae ne ce]] w (RawR w0 r O w (R.write nm off bs)) := by
  obtain ⟨W, hW⟩ : ∃ W, W = w.alloc (.cells #[.int .i64 3, .string ⟨nm.toArray⟩, .string ⟨into.toArray⟩, .int .i64 off, .int .i64 n, .slice Ad nd cd, .int .u8 m.toNat, .slice Ae ne ce] 61) := ⟨_, rfl⟩
  have hg : w.grownBy W none := by rw [hW]; exact gr_alloc _ _ none
  have hb : Blk W w.heap.size 61 #[.int .i64 3, .string ⟨nm.toArray⟩, .string ⟨into.toArray⟩, .int .i64 off, .int .i64 n, .slice Ad nd cd, .int .u8 m.toNat, .slice Ae ne ce] := by rw [hW]; exact Blk.new w _ _
  have hbc := hb.cell
  rw [hW] at hbc
  have HW : Hid (w.alloc (.cells #[.int .i64 3, .string ⟨nm.toArray⟩, .string ⟨into.toArray⟩, .int .i64 off, .int .i64 n, .slice Ad nd cd, .int .u8 m.toNat, .slice Ae ne ce] 61) = W) := hW.symm
  have HA := Lib.hid ((hnd ▸ rwrite_any (h.ext hg) hup.nodup nm hn off hoff (fun O1 w1 hc => rd_chg hb0 (h.ext hg).gr h.own0 hc) (by omega) : Calls Tryz.prog 36 #[.pointer (some ⟨r, 0, none⟩), .string ⟨nm.toArray⟩, .int .i64 off, .slice Ad nd cd] W fun e w' => e = .returned (.int .i64 (R.write nm off bs).2) ∧ RSn w0 r O (R.write nm off bs).1 W w'))
  have HGO : Hid (Ch O w O W) := Ch.ext hg
  obtain ⟨Y, hY⟩ : ∃ Y, Y = (R.write nm off bs) := ⟨_, rfl⟩
  rw [← hY] at HA ⊢
  clear h hb hW hg hY hn hnd hb0
  go_enter Tryz.func61, Tryz.ntmps61
  go_wp2_with fail
  rw [HW.out]
  refine HA.out.mono ?_
  rintro e w1 ⟨rfl, o1, k1, k2⟩
  have K1 := Lib.hid k1
  have K2 : Hid (Ch O w o1 w1) := HGO.out.trans k2
  clear k1 k2
  go_wp2_with fail
  go_ret
  exact ⟨rfl, o1, K1.out, K2.out⟩
theorem rawm_4 (h : RS w0 w r O R) (hup : Up R) (hn : nm.length ≤ 1000000000) (into : List UInt8) (off n : Int) (m : UInt8) (hoff : -9223372036854775808 ≤ off ∧ off ≤ 9223372036854775807) :
    Calls Tryz.prog 61 #[.pointer (some ⟨r, 0, none⟩), .agg #[.int .i64 4, .string ⟨nm.toArray⟩, .string ⟨into.toArray⟩, .int .i64 off, .int .i64 n, .slice Ad nd cd, .int .u8 m.toNat, .slice Ae ne ce]] w (RawR w0 r O w (R.cut nm off)) := by
  obtain ⟨W, hW⟩ : ∃ W, W = w.alloc (.cells #[.int .i64 4, .string ⟨nm.toArray⟩, .string ⟨into.toArray⟩, .int .i64 off, .int .i64 n, .slice Ad nd cd, .int .u8 m.toNat, .slice Ae ne ce] 61) := ⟨_, rfl⟩
  have hg : w.grownBy W none := by rw [hW]; exact gr_alloc _ _ none
  have hb : Blk W w.heap.size 61 #[.int .i64 4, .string ⟨nm.toArray⟩, .string ⟨into.toArray⟩, .int .i64 off, .int .i64 n, .slice Ad nd cd, .int .u8 m.toNat, .slice Ae ne ce] := by rw [hW]; exact Blk.new w _ _
  have hbc := hb.cell
  rw [hW] at hbc
  have HW : Hid (w.alloc (.cells #[.int .i64 4, .string ⟨nm.toArray⟩, .string ⟨into.toArray⟩, .int .i64 off, .int .i64 n, .slice Ad nd cd, .int .u8 m.toNat, .slice Ae ne ce] 61) = W) := hW.symm
  have HA := Lib.hid (rcut_any (h.ext hg) hup.nodup nm hn off hoff)
  have HGO : Hid (Ch O w O W) := Ch.ext hg
  obtain ⟨Y, hY⟩ : ∃ Y, Y = (R.cut nm off) := ⟨_, rfl⟩
  rw [← hY] at HA ⊢
  clear h hb hW hg hY hn
  go_enter Tryz.func61, Tryz.ntmps61
  go_wp2_with fail
  rw [HW.out]
  refine HA.out.mono ?_
  rintro e w1 ⟨rfl, o1, k1, k2⟩
  have K1 := Lib.hid k1
  have K2 : Hid (Ch O w o1 w1) := HGO.out.trans k2
  clear k1 k2
  go_wp2_with fail
  go_ret
  exact ⟨rfl, o1, K1.out, K2.out⟩
theorem rawm_8 (h : RS w0 w r O R) (_hup : Up R) (_hn : nm.length ≤ 1000000000) (into : List UInt8) (off n : Int) (m : UInt8) (hq : -9223372036854775808 ≤ n ∧ n ≤ 9223372036854775807) :
    Calls Tryz.prog 61 #[.pointer (some ⟨r, 0, none⟩), .agg #[.int .i64 8, .string ⟨nm.toArray⟩, .string ⟨into.toArray⟩, .int .i64 off, .int .i64 n, .slice Ad nd cd, .int .u8 m.toNat, .slice Ae ne ce]] w (RawR w0 r O w (R.setQuota n)) := by
  obtain ⟨W, hW⟩ : ∃ W, W = w.alloc (.cells #[.int .i64 8, .string ⟨nm.toArray⟩, .string ⟨into.toArray⟩, .int .i64 off, .int .i64 n, .slice Ad nd cd, .int .u8 m.toNat, .slice Ae ne ce] 61) := ⟨_, rfl⟩
  have hg : w.grownBy W none := by rw [hW]; exact gr_alloc _ _ none
  have hb : Blk W w.heap.size 61 #[.int .i64 8, .string ⟨nm.toArray⟩, .string ⟨into.toArray⟩, .int .i64 off, .int .i64 n, .slice Ad nd cd, .int .u8 m.toNat, .slice Ae ne ce] := by rw [hW]; exact Blk.new w _ _
  have hbc := hb.cell
  rw [hW] at hbc
  have HW : Hid (w.alloc (.cells #[.int .i64 8, .string ⟨nm.toArray⟩, .string ⟨into.toArray⟩, .int .i64 off, .int .i64 n, .slice Ad nd cd, .int .u8 m.toNat, .slice Ae ne ce] 61) = W) := hW.symm
  have HA := Lib.hid (rquota_any (h.ext hg) n hq)
  have HGO : Hid (Ch O w O W) := Ch.ext hg
  obtain ⟨Y, hY⟩ : ∃ Y, Y = (R.setQuota n) := ⟨_, rfl⟩
  rw [← hY] at HA ⊢
  clear h hb hW hg hY
  go_enter Tryz.func61, Tryz.ntmps61
  go_wp2_with fail
  rw [HW.out]
  refine HA.out.mono ?_
  rintro e w1 ⟨rfl, o1, k1, k2⟩
  have K1 := Lib.hid k1
  have K2 : Hid (Ch O w o1 w1) := HGO.out.trans k2
  clear k1 k2
  go_wp2_with fail
  go_ret
  exact ⟨rfl, o1, K1.out, K2.out⟩
theorem rawm_9 (h : RS w0 w r O R) (_hup : Up R) (_hn : nm.length ≤ 1000000000) (into : List UInt8) (off n : Int) (m : UInt8) (hq : -9223372036854775808 ≤ n ∧ n ≤ 9223372036854775807) :
    Calls Tryz.prog 61 #[.pointer (some ⟨r, 0, none⟩), .agg #[.int .i64 9, .string ⟨nm.toArray⟩, .string ⟨into.toArray⟩, .int .i64 off, .int .i64 n, .slice Ad nd cd, .int .u8 m.toNat, .slice Ae ne ce]] w (RawR w0 r O w (R.arm n)) := by
  obtain ⟨W, hW⟩ : ∃ W, W = w.alloc (.cells #[.int .i64 9, .string ⟨nm.toArray⟩, .string ⟨into.toArray⟩, .int .i64 off, .int .i64 n, .slice Ad nd cd, .int .u8 m.toNat, .slice Ae ne ce] 61) := ⟨_, rfl⟩
  have hg : w.grownBy W none := by rw [hW]; exact gr_alloc _ _ none
  have hb : Blk W w.heap.size 61 #[.int .i64 9, .string ⟨nm.toArray⟩, .string ⟨into.toArray⟩, .int .i64 off, .int .i64 n, .slice Ad nd cd, .int .u8 m.toNat, .slice Ae ne ce] := by rw [hW]; exact Blk.new w _ _
  have hbc := hb.cell
  rw [hW] at hbc
  have HW : Hid (w.alloc (.cells #[.int .i64 9, .string ⟨nm.toArray⟩, .string ⟨into.toArray⟩, .int .i64 off, .int .i64 n, .slice Ad nd cd, .int .u8 m.toNat, .slice Ae ne ce] 61) = W) := hW.symm
  have HA := Lib.hid (rarm_any (h.ext hg) n hq)
  have HGO : Hid (Ch O w O W) := Ch.ext hg
  obtain ⟨Y, hY⟩ : ∃ Y, Y = (R.arm n) := ⟨_, rfl⟩
  rw [← hY] at HA ⊢
  clear h hb hW hg hY
  go_enter Tryz.func61, Tryz.ntmps61
  go_wp2_with fail
  rw [HW.out]
  refine HA.out.mono ?_
  rintro e w1 ⟨rfl, o1, k1, k2⟩
  have K1 := Lib.hid k1
  have K2 : Hid (Ch O w o1 w1) := HGO.out.trans k2
  clear k1 k2
  go_wp2_with fail
  go_ret
  exact ⟨rfl, o1, K1.out, K2.out⟩
theorem rawm_10 (h : RS w0 w r O R) (hup : Up R) (hlo : ∀ f ∈ R.L, ∀ k : Nat, f.loose.getD k false = true → 64 * k < f.now.length) (into : List UInt8) (off n : Int) (m : UInt8) {keep : List Int} (hne : ne = keep.length) (hk0 : RdI w0 (.slice Ae keep.length ce) keep) (hkl : keep.length ≤ 100000000) :
    Calls Tryz.prog 61 #[.pointer (some ⟨r, 0, none⟩), .agg #[.int .i64 10, .string ⟨nm.toArray⟩, .string ⟨into.toArray⟩, .int .i64 off, .int .i64 n, .slice Ad nd cd, .int .u8 m.toNat, .slice Ae ne ce]] w (RawR w0 r O w (if R.off = true then (R.on keep, 0) else (R, 14))) := by
  obtain ⟨W, hW⟩ : ∃ W, W = w.alloc (.cells #[.int .i64 10, .string ⟨nm.toArray⟩, .string ⟨into.toArray⟩, .int .i64 off, .int .i64 n, .slice Ad nd cd, .int .u8 m.toNat, .slice Ae ne ce] 61) := ⟨_, rfl⟩
  have hg : w.grownBy W none := by rw [hW]; exact gr_alloc _ _ none
  have hb : Blk W w.heap.size 61 #[.int .i64 10, .string ⟨nm.toArray⟩, .string ⟨into.toArray⟩, .int .i64 off, .int .i64 n, .slice Ad nd cd, .int .u8 m.toNat, .slice Ae ne ce] := by rw [hW]; exact Blk.new w _ _
  have hbc := hb.cell
  rw [hW] at hbc
  have HW : Hid (w.alloc (.cells #[.int .i64 10, .string ⟨nm.toArray⟩, .string ⟨into.toArray⟩, .int .i64 off, .int .i64 n, .slice Ad nd cd, .int .u8 m.toNat, .slice Ae ne ce] 61) = W) := hW.symm
  have HGO : Hid (Ch O w O W) := Ch.ext hg
  rw [← hne] at hk0
  by_cases hd : R.off = true
  · rw [if_pos hd]
    have HA := Lib.hid (ron_any (h.ext hg) hup.nodup hlo hd (rd_chg hk0 (h.ext hg).gr h.own0 (Ch.refl _ _)) (fun O1 w1 hc => rd_chg hk0 (h.ext hg).gr h.own0 hc) (by omega : keep.length ≤ 1000000000))
    clear h hb hW hg hd hk0 hne hlo
    go_enter Tryz.func61, Tryz.ntmps61
    go_wp2_with fail
    rw [HW.out]
    refine HA.out.mono ?_
    rintro e w1 ⟨rfl, o1, k1, k2⟩
    have K1 := Lib.hid k1
    have K2 : Hid (Ch O w o1 w1) := HGO.out.trans k2
    clear k1 k2
    go_wp2_with fail
    go_ret
    exact ⟨rfl, o1, K1.out, K2.out⟩
  · rw [if_neg hd]
    have HA := Lib.hid (ron_alive (h.ext hg) (by simpa using hd) (.slice Ae ne ce))
    have HH := Lib.hid (h.ext hg)
    clear h hb hW hg hd hk0 hne hlo
    go_enter Tryz.func61, Tryz.ntmps61
    go_wp2_with fail
    rw [HW.out]
    refine HA.out.mono ?_
    rintro e w1 ⟨rfl, rfl⟩
    go_wp2_with fail
    go_ret
    exact ⟨rfl, O, HH.out, HGO.out⟩
theorem rawm_11 (h : RS w0 w r O R) (hup : Up R) (hn : nm.length ≤ 1000000000) (into : List UInt8) (off n : Int) (m : UInt8) (hoff : -9223372036854775808 ≤ off ∧ off ≤ 9223372036854775807) :
    Calls Tryz.prog 61 #[.pointer (some ⟨r, 0, none⟩), .agg #[.int .i64 11, .string ⟨nm.toArray⟩, .string ⟨into.toArray⟩, .int .i64 off, .int .i64 n, .slice Ad nd cd, .int .u8 m.toNat, .slice Ae ne ce]] w (RawR w0 r O w (R.flipA nm off m)) := by
  obtain ⟨W, hW⟩ : ∃ W, W = w.alloc (.cells #[.int .i64 11, .string ⟨nm.toArray⟩, .string ⟨into.toArray⟩, .int .i64 off, .int .i64 n, .slice Ad nd cd, .int .u8 m.toNat, .slice Ae ne ce] 61) := ⟨_, rfl⟩
  have hg : w.grownBy W none := by rw [hW]; exact gr_alloc _ _ none
  have hb : Blk W w.heap.size 61 #[.int .i64 11, .string ⟨nm.toArray⟩, .string ⟨into.toArray⟩, .int .i64 off, .int .i64 n, .slice Ad nd cd, .int .u8 m.toNat, .slice Ae ne ce] := by rw [hW]; exact Blk.new w _ _
  have hbc := hb.cell
  rw [hW] at hbc
  have HW : Hid (w.alloc (.cells #[.int .i64 11, .string ⟨nm.toArray⟩, .string ⟨into.toArray⟩, .int .i64 off, .int .i64 n, .slice Ad nd cd, .int .u8 m.toNat, .slice Ae ne ce] 61) = W) := hW.symm
  have HA := Lib.hid (rflip_any (h.ext hg) hup.nodup nm hn off m hoff)
  have HGO : Hid (Ch O w O W) := Ch.ext hg
  obtain ⟨Y, hY⟩ : ∃ Y, Y = (R.flipA nm off m) := ⟨_, rfl⟩
  rw [← hY] at HA ⊢
  clear h hb hW hg hY hn
  go_enter Tryz.func61, Tryz.ntmps61
  go_wp2_with fail
  rw [HW.out]
  refine HA.out.mono ?_
  rintro e w1 ⟨rfl, o1, k1, k2⟩
  have K1 := Lib.hid k1
  have K2 : Hid (Ch O w o1 w1) := HGO.out.trans k2
  clear k1 k2
  go_wp2_with fail
  go_ret
  exact ⟨rfl, o1, K1.out, K2.out⟩
theorem rawm_other (h : RS w0 w r O R) (_hup : Up R) {kd : Int} (hkd : ¬ (kd = 1 ∨ kd = 3 ∨ kd = 4 ∨ kd = 8 ∨ kd = 9 ∨ kd = 10 ∨ kd = 11)) (into : List UInt8) (off n : Int) (m : UInt8) :
    Calls Tryz.prog 61 #[.pointer (some ⟨r, 0, none⟩), .agg #[.int .i64 kd, .string ⟨nm.toArray⟩, .string ⟨into.toArray⟩, .int .i64 off, .int .i64 n, .slice Ad nd cd, .int .u8 m.toNat, .slice Ae ne ce]] w (RawR w0 r O w (R, 0)) := by
  obtain ⟨W, hW⟩ : ∃ W, W = w.alloc (.cells #[.int .i64 kd, .string ⟨nm.toArray⟩, .string ⟨into.toArray⟩, .int .i64 off, .int .i64 n, .slice Ad nd cd, .int .u8 m.toNat, .slice Ae ne ce] 61) := ⟨_, rfl⟩
  have hg : w.grownBy W none := by rw [hW]; exact gr_alloc _ _ none
  have hb : Blk W w.heap.size 61 #[.int .i64 kd, .string ⟨nm.toArray⟩, .string ⟨into.toArray⟩, .int .i64 off, .int .i64 n, .slice Ad nd cd, .int .u8 m.toNat, .slice Ae ne ce] := by rw [hW]; exact Blk.new w _ _
  have hbc := hb.cell
  rw [hW] at hbc
  have HW : Hid (w.alloc (.cells #[.int .i64 kd, .string ⟨nm.toArray⟩, .string ⟨into.toArray⟩, .int .i64 off, .int .i64 n, .slice Ad nd cd, .int .u8 m.toNat, .slice Ae ne ce] 61) = W) := hW.symm
  have HGO : Hid (Ch O w O W) := Ch.ext hg
  have HH := Lib.hid (h.ext hg)
  have q1 : (kd == 1) = false := by rw [beq_eq_false_iff_ne]; omega
  have q3 : (kd == 3) = false := by rw [beq_eq_false_iff_ne]; omega
  have q4 : (kd == 4) = false := by rw [beq_eq_false_iff_ne]; omega
  have q8 : (kd == 8) = false := by rw [beq_eq_false_iff_ne]; omega
  have q9 : (kd == 9) = false := by rw [beq_eq_false_iff_ne]; omega
  have q10 : (kd == 10) = false := by rw [beq_eq_false_iff_ne]; omega
  have q11 : (kd == 11) = false := by rw [beq_eq_false_iff_ne]; omega
  clear h hb hW hg hkd
  go_enter Tryz.func61, Tryz.ntmps61
  go_wp2_with fail
  rw [HW.out]
  go_ret
  exact ⟨rfl, O, HH.out, HGO.out⟩
theorem rawm_any (h : RS w0 w r O R) (hup : Up R) (hlo : ∀ f ∈ R.L, ∀ k : Nat, f.loose.getD k false = true → 64 * k < f.now.length) {D : OpV} (hD : OpOk w0 D) {Ad Ae : Option Addr} {cd ce : Nat} (e1 : D.bv = .slice Ad D.b.length cd) (e2 : D.kv = .slice Ae D.keep.length ce) (hnm : D.name.length ≤ 1000000000) (hbl : D.b.length ≤ 100000000) (hkl : D.keep.length ≤ 100000000) :
    Calls Tryz.prog 61 #[.pointer (some ⟨r, 0, none⟩), .agg #[.int .i64 D.kind, .string ⟨D.name.toArray⟩, .string ⟨D.into.toArray⟩, .int .i64 D.off, .int .i64 D.n, .slice Ad D.b.length cd, .int .u8 D.mask.toNat, .slice Ae D.keep.length ce]] w (RawR w0 r O w (R.raw D)) := by
  obtain ⟨kd, nm, into, off, n, bv, bs, m, kv, keep⟩ := D
  dsimp only at *
  subst e1 e2
  unfold RD.raw
  by_cases e1 : kd = 1
  · subst e1
    exact rawm_1 h hup hnm into off n m
  · rw [if_neg e1]
    by_cases e3 : kd = 3
    · subst e3
      exact rawm_3 h hup hnm into off n m hD.off rfl hD.b hbl
    · rw [if_neg e3]
      by_cases e4 : kd = 4
      · subst e4
        exact rawm_4 h hup hnm into off n m hD.off
      · rw [if_neg e4]
        by_cases e8 : kd = 8
        · subst e8
          exact rawm_8 h hup hnm into off n m hD.n
        · rw [if_neg e8]
          by_cases e9 : kd = 9
          · subst e9
            exact rawm_9 h hup hnm into off n m hD.n
          · rw [if_neg e9]
            by_cases e10 : kd = 10
            · subst e10
              exact rawm_10 h hup hlo into off n m rfl hD.keep hkl
            · rw [if_neg e10]
              by_cases e11 : kd = 11
              · subst e11
                exact rawm_11 h hup hnm into off n m hD.off
              · rw [if_neg e11]
                exact rawm_other h hup (by omega) into off n m
end
end Go.Proofs.YtipankjajdpiiaaGreat

/- A file of pages and its disk, the program's and the document's, seen from an older world. -/
namespace Go.Proofs.YtipankjajdpiiaaGreat
open Go.RowKit Go.Maps
set_option maxRecDepth 100000
set_option maxHeartbeats 400000

/-- a disk's blocks and a file's. -/
def po (o : Own1) (b : Nat) : Own1 := fun i => if i = b then some (9, []) else o i
section
variable {w0 w w' w1 : World} {d r b B : Nat} {fv v : Value} {S S' : Dk} {R R' : RD} {f f' : Option (List UInt8)} {n : List UInt8} {O O' O1 O1' o o' : Own1}
theorem po_none {i : Nat} (h : po o b i = none) : i ≠ b ∧ o i = none := by
  unfold po at h
  split at h
  · cases h
  · next h2 => exact ⟨h2, h⟩
theorem po_none_mk {i : Nat} (h1 : i ≠ b) (h2 : o i = none) : po o b i = none := by unfold po; rw [if_neg h1]; exact h2
theorem po_mem {i : Nat} (h : po o b i ≠ none) : i = b ∨ o i ≠ none := by
  unfold po at h
  split at h
  · next h2 => exact .inl h2
  · exact .inr h
theorem po_off (hd : Dsj (po o b) O1) : Dsj o O1 ∧ O1 b = none := by
  refine ⟨Dsj.mk fun i hi => hd.off i ?_, hd.off b ?_⟩
  · unfold po; split
    · simp
    · exact hi
  · unfold po; rw [if_pos rfl]; simp
theorem Ch.po (h : Ch o w o' w') : Ch (po o b) w (po o' b) w' :=
  ⟨h.os, h.tape, h.output, h.size, fun i hi h0 => h.block i hi (po_none h0).2, fun i hi h0 => po_none_mk (po_none h0).1 (h.free i hi (po_none h0).2)⟩
theorem po_of (hc : Ch o w o' w') (hb : w.heap.size ≤ b) : Ch o w (po o' b) w' :=
  ⟨hc.os, hc.tape, hc.output, hc.size, hc.block, fun i hi h0 => po_none_mk (by omega) (hc.free i hi h0)⟩
theorem Ch.wide2 (hc : Ch o w o' w') (hO : ∀ i, O i = none → o i = none) : Ch O w o' w' := ⟨hc.os, hc.tape, hc.output, hc.size, fun i hi h0 => hc.block i hi (hO i h0), fun i hi h0 => hc.free i hi (hO i h0)⟩
/-- the program's. -/
def PF (w0 : World) (d : Nat) (fv : Value) (S : Dk) (f : Option (List UInt8)) (O : Own1) (w : World) : Prop :=
  (f = none ∧ fv = .pointer none ∧ DA w0 d O S w) ∨ (∃ n b o, f = some n ∧ n.length ≤ 1000000000 ∧ fv = .pointer (some ⟨b, 0, none⟩) ∧ O = po o b ∧ DA w0 d o S w ∧ PfR w w0.heap.size o d b n)
/-- the document's. -/
def RF (w0 : World) (r : Nat) (fv : Value) (R : RD) (f : Option (List UInt8)) (O : Own1) (w : World) : Prop :=
  (f = none ∧ fv = .pointer none ∧ RS w0 w r O R) ∨ (∃ n b o, f = some n ∧ n.length ≤ 1000000000 ∧ fv = .pointer (some ⟨b, 0, none⟩) ∧ O = po o b ∧ RS w0 w r o R ∧ RpR w w0.heap.size o r b n)
theorem PF.gr (h : PF w0 d fv S f O w) : w0.grownBy w none := by
  rcases h with ⟨-, -, h⟩ | ⟨n, b, o, -, -, -, -, h, -⟩
  · exact h.gr
  · exact h.gr
theorem RF.gr (h : RF w0 r fv R f O w) : w0.grownBy w none := by
  rcases h with ⟨-, -, h⟩ | ⟨n, b, o, -, -, -, -, h, -⟩
  · exact h.gr
  · exact h.gr
theorem PF.inb (h : PF w0 d fv S f O w) {i : Nat} (hi : O i ≠ none) : w0.heap.size ≤ i ∧ i < w.heap.size := by
  rcases h with ⟨-, -, h⟩ | ⟨n, b, o, -, -, -, rfl, h, hj⟩
  · exact ⟨h.own0 i hi, h.own1 i hi⟩
  · rcases po_mem hi with rfl | e
    · exact ⟨hj.pB, hj.box.lt⟩
    · exact ⟨h.own0 i e, h.own1 i e⟩
theorem RF.inb (h : RF w0 r fv R f O w) {i : Nat} (hi : O i ≠ none) : w0.heap.size ≤ i ∧ i < w.heap.size := by
  rcases h with ⟨-, -, h⟩ | ⟨n, b, o, -, -, -, rfl, h, hj⟩
  · obtain ⟨A, N, c, l, h, -⟩ := h; exact h.inb i hi
  · rcases po_mem hi with rfl | e
    · exact ⟨hj.pB, hj.box.lt⟩
    · obtain ⟨A, N, c, l, h, -⟩ := h; exact h.inb i e
theorem PF.fresh (h : PF w0 d fv S f O w) {i : Nat} (hi : w.heap.size ≤ i) : O i = none := by
  cases e : O i with
  | none => rfl
  | some t => have := (h.inb (i := i) (by rw [e]; simp)).2; omega
theorem RF.fresh (h : RF w0 r fv R f O w) {i : Nat} (hi : w.heap.size ≤ i) : O i = none := by
  cases e : O i with
  | none => rfl
  | some t => have := (h.inb (i := i) (by rw [e]; simp)).2; omega
/-- what is done beside leaves it as it is. -/
theorem PF.keep (h : PF w0 d fv S f O w) (hc : Ch O1 w O1' w') (hd : Dsj O O1) (hg : w0.grownBy w' none) : PF w0 d fv S f O w' ∧ Dsj O O1' := by
  refine ⟨?_, Dsj.mk fun i hi => hc.free i (h.inb hi).2 (hd.off i hi)⟩
  rcases h with ⟨e1, e2, h⟩ | ⟨n, b, o, e1, e3, e2, rfl, h, hj⟩
  · exact .inl ⟨e1, e2, (h.beside hc hd hg).1⟩
  · obtain ⟨h1, h2⟩ := po_off hd
    exact .inr ⟨n, b, o, e1, e3, e2, rfl, (h.beside hc h1 hg).1, hj.box.same (hc.block b hj.box.lt h2), hj.free, hj.pB⟩
theorem RF.keep (h : RF w0 r fv R f O w) (hc : Ch O1 w O1' w') (hd : Dsj O O1) (hg : w0.grownBy w' none) : RF w0 r fv R f O w' ∧ Dsj O O1' := by
  refine ⟨?_, Dsj.mk fun i hi => hc.free i (h.inb hi).2 (hd.off i hi)⟩
  rcases h with ⟨e1, e2, h⟩ | ⟨n, b, o, e1, e3, e2, rfl, h, hj⟩
  · exact .inl ⟨e1, e2, (h.keep hc hd hg).1⟩
  · obtain ⟨h1, h2⟩ := po_off hd
    exact .inr ⟨n, b, o, e1, e3, e2, rfl, (h.keep hc h1 hg).1, hj.box.same (hc.block b hj.box.lt h2), hj.free, hj.pB⟩
theorem PF.ext (h : PF w0 d fv S f O w) (g : w.grownBy w' none) : PF w0 d fv S f O w' := (h.keep (Ch.ext (o := fun _ => none) g) (fun _ => .inr rfl) (gr_none h.gr g)).1
theorem RF.ext (h : RF w0 r fv R f O w) (g : w.grownBy w' none) : RF w0 r fv R f O w' := (h.keep (Ch.ext (o := fun _ => none) g) (fun _ => .inr rfl) (gr_none h.gr g)).1
theorem gr_far {q : Option Nat} (h0 : w0.grownBy w none) (g : w.grownBy w' q) (hq : ∀ k, q = some k → w0.heap.size ≤ k) : w0.grownBy w' none :=
  gr_trans h0 g (by cases q with | none => exact .inl rfl | some k => exact .inr fun q' e => by cases e; exact hq k rfl)
theorem ch_far {q : Option Nat} (g : w.grownBy w' q) : Ch (fun i => if q = some i then some (9, []) else none) w (fun i => if q = some i then some (9, []) else none) w' :=
  ⟨g.os, g.tape, g.output, g.size, fun i hi h0 => g.block i hi (fun e => by rw [if_pos e.symm] at h0; cases h0), fun _ _ h => h⟩
theorem PF.sta : Sta w0 (PF w0 d fv S f) where
  far := fun h g hr => (h.keep (ch_far g) (Dsj.mk fun i hi => by
    split
    · next e => exact absurd (hr i e).1 hi
    · rfl) (gr_far h.gr g fun k e => (hr k e).2)).1
  gr := fun h => h.gr
  fresh := fun h hi => h.fresh hi
theorem RF.sta : Sta w0 (RF w0 r fv R f) where
  far := fun h g hr => (h.keep (ch_far g) (Dsj.mk fun i hi => by
    split
    · next e => exact absurd (hr i e).1 hi
    · rfl) (gr_far h.gr g fun k e => (hr k e).2)).1
  gr := fun h => h.gr
  fresh := fun h hi => h.fresh hi
/-- behind an operation of the disk alone. -/
theorem PF.disk (h : PF w0 d fv S f O w) : ∃ o, DA w0 d o S w ∧ ∀ S' w', DP w0 d o S' w w' → StN (PF w0 d fv S' f) O w w' := by
  rcases h with ⟨e1, e2, h⟩ | ⟨n, b, o, e1, e3, e2, rfl, h, hj⟩
  · exact ⟨O, h, fun S' w' ⟨o', k1, k2⟩ => ⟨o', .inl ⟨e1, e2, k1⟩, k2⟩⟩
  · exact ⟨o, h, fun S' w' ⟨o', k1, k2⟩ => ⟨po o' b, .inr ⟨n, b, o', e1, e3, e2, rfl, k1, hj.ch k2⟩, k2.po⟩⟩
theorem RF.disk (h : RF w0 r fv R f O w) : ∃ o, RS w0 w r o R ∧ ∀ R' w', RSn w0 r o R' w w' → StN (RF w0 r fv R' f) O w w' := by
  rcases h with ⟨e1, e2, h⟩ | ⟨n, b, o, e1, e3, e2, rfl, h, hj⟩
  · exact ⟨O, h, fun S' w' ⟨o', k1, k2⟩ => ⟨o', .inl ⟨e1, e2, k1⟩, k2⟩⟩
  · exact ⟨o, h, fun S' w' ⟨o', k1, k2⟩ => ⟨po o' b, .inr ⟨n, b, o', e1, e3, e2, rfl, k1, hj.ch k2⟩, k2.po⟩⟩
theorem PF.disk2 (h : PF w0 d fv S f O w) : ∃ o, DA w0 d o S w ∧ ∀ i, O i = none → o i = none := by
  rcases h with ⟨-, -, h⟩ | ⟨n, b, o, -, -, -, rfl, h, hj⟩
  · exact ⟨O, h, fun _ h => h⟩
  · exact ⟨o, h, fun i hi => (po_none hi).2⟩
theorem RF.disk2 (h : RF w0 r fv R f O w) : ∃ o, RS w0 w r o R ∧ ∀ i, O i = none → o i = none := by
  rcases h with ⟨-, -, h⟩ | ⟨n, b, o, -, -, -, rfl, h, hj⟩
  · exact ⟨O, h, fun _ h => h⟩
  · exact ⟨o, h, fun i hi => (po_none hi).2⟩
/-! names, and what no file tells -/
theorem pfname_any (h : PfR w B o d b n) : Calls Tryz.prog 48 #[.pointer (some ⟨b, 0, none⟩)] w fun e w' => e = .returned (.string ⟨n.toArray⟩) ∧ w = w' := by
  have k1 := h.cells.2.1
  clear h
  go_enter Tryz.func48, Tryz.ntmps48
  go_wp2
  go_ret
  exact ⟨rfl, rfl⟩
theorem rpname_any (h : RpR w B o r b n) : Calls Tryz.prog 54 #[.pointer (some ⟨b, 0, none⟩)] w fun e w' => e = .returned (.string ⟨n.toArray⟩) ∧ w = w' := by
  have k1 := h.cells.2
  clear h
  go_enter Tryz.func54, Tryz.ntmps54
  go_wp2
  go_ret
  exact ⟨rfl, rfl⟩
theorem rpname_nil (w : World) : Calls Tryz.prog 54 #[.pointer none] w fun e w' => e = .returned (.string ⟨#[]⟩) ∧ w = w' := by
  go_enter Tryz.func54, Tryz.ntmps54
  go_wp2
  go_ret
  exact ⟨rfl, rfl⟩
theorem rpages_nil (w : World) : Calls Tryz.prog 59 #[.pointer none] w fun e w' => e = .returned (.tuple #[.int .i64 0, .int .i64 2]) ∧ w = w' := by
  go_enter Tryz.func59, Tryz.ntmps59
  go_wp2
  go_ret2
  exact ⟨rfl, rfl⟩
theorem rpread_nil (w : World) (k : Int) : Calls Tryz.prog 56 #[.pointer none, .int .i64 k] w fun e w' => e = .returned (.tuple #[.slice none 0 0, .int .i64 2]) ∧ w = w' := by
  go_enter Tryz.func56, Tryz.ntmps56
  go_wp2
  go_ret2
  exact ⟨rfl, rfl⟩
theorem rpwrite_nil (w : World) (k : Int) (v : Value) : Calls Tryz.prog 57 #[.pointer none, .int .i64 k, v] w fun e w' => e = .returned (.int .i64 2) ∧ w = w' := by
  go_enter Tryz.func57, Tryz.ntmps57
  go_wp2
  go_ret
  exact ⟨rfl, rfl⟩
theorem rpsync_nil (w : World) : Calls Tryz.prog 58 #[.pointer none] w fun e w' => e = .returned (.int .i64 2) ∧ w = w' := by
  go_enter Tryz.func58, Tryz.ntmps58
  go_wp2
  go_ret
  exact ⟨rfl, rfl⟩
/-- Bad, on any disk. -/
theorem pbad_any {c : Con} (h : DI w B o d S c) (hn : n.length ≤ 1000000000) :
    Calls Tryz.prog 51 #[.pointer (some ⟨d, 0, none⟩), .string ⟨n.toArray⟩] w fun e w' => (∃ v, e = .returned (.tuple #[v, .int .i64 (S.pgs n).2]) ∧ OwnI w' w.heap.size v (if (S.pgs n).2 = 0 then (badL S n (S.pgs n).1).map Int.ofNat else [])) ∧ w.grownBy w' none := by
  by_cases hq : (S.pgs n).2 = 0
  · have hs : S.size n = (256 * (S.pgs n).1, 0) := by
      unfold Dk.pgs at hq ⊢
      split at hq
      · next h1 => exact absurd hq h1
      · next h1 =>
        split at hq
        · cases hq
        · next h2 =>
          rw [if_neg h1, if_neg h2]
          simp at h1
          refine Prod.ext ?_ h1
          show (S.size n).1 = 256 * ((S.size n).1 / 256)
          omega
    rw [if_pos hq, hq]
    refine (bad_own h hn hs).mono ?_
    rintro e w1 ⟨⟨v, rfl, k1⟩, k2⟩
    refine ⟨⟨v, rfl, ?_⟩, k2⟩
    unfold OwnI
    rw [List.length_map]
    have e9 : intL ((badL S n (S.pgs n).1).map Int.ofNat) = natL (badL S n (S.pgs n).1) := by
      unfold intL natL
      rw [List.map_map]
      rfl
    rw [e9]
    exact k1
  · have HO := Lib.hid (popen_gen h hn)
    rw [if_neg hq]
    have HQ : Hid ((S.pgs n).2 ≠ 0) := hq
    have hqe : (((S.pgs n).2 : Int) == 0) = false := by rw [beq_eq_false_iff_ne]; omega
    have hqn : (((S.pgs n).2 : Int) != 0) = true := by rw [bne_iff_ne]; omega
    generalize S.pgs n = X at *
    obtain ⟨x1, x2⟩ := X
    clear hq h
    go_enter Tryz.func51, Tryz.ntmps51
    go_wp2_with fail
    refine HO.out.mono ?_
    rintro e w1 ⟨g1, hh⟩
    obtain rfl : e = .returned (.tuple #[.pointer none, .int .i64 (x2 : Nat)]) := by
      rcases hh with ⟨_, h1⟩ | ⟨h2, _⟩
      · exact h1
      · exact absurd h2 HQ.out
    have G1 := Lib.hid g1
    clear hh g1
    go_wp2_with fail
    go_ret2
    exact ⟨⟨_, rfl, Own.nil _ _ _⟩, G1.out⟩
end
end Go.Proofs.YtipankjajdpiiaaGreat
