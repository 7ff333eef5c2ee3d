/-
  crc: the table, sums, and the reference's.
-/
import Derived.Test.YtipankjajdpiiaaGreatPfP
import Derived.Test.YtipankjajdpiiaaGreatRef
import Derived.Laws.Tables
import Derived.Laws.Rows
namespace Go.Proofs.YtipankjajdpiiaaGreat
open Go.RowKit
set_option maxRecDepth 100000
set_option maxHeartbeats 400000

theorem u32_xor_nat (a b : Nat) (ha : a < 4294967296) (hb : b < 4294967296) : bits .xor .u32 (a : Int) (b : Int) = ((a ^^^ b : Nat) : Int) := by
  have h := xor_lt (n := 32) ha hb
  have h1 : a % 2 ^ 32 = a := Nat.mod_eq_of_lt ha
  have h2 : b % 2 ^ 32 = b := Nat.mod_eq_of_lt hb
  show IntKind.u32.wrap (((BitVec.ofInt 32 (a : Int) ^^^ BitVec.ofInt 32 (b : Int)).toNat : Nat) : Int) = _
  rw [BitVec.toNat_xor, BitVec.ofInt_natCast, BitVec.ofInt_natCast, BitVec.toNat_ofNat, BitVec.toNat_ofNat, h1, h2, IntWalk.u32_in _ (by omega)]
theorem u8_xor_nat (a b : Nat) (ha : a < 256) (hb : b < 256) : bits .xor .u8 (a : Int) (b : Int) = ((a ^^^ b : Nat) : Int) := by
  have h := xor_lt (n := 8) ha hb
  have h1 : a % 2 ^ 8 = a := Nat.mod_eq_of_lt ha
  have h2 : b % 2 ^ 8 = b := Nat.mod_eq_of_lt hb
  show IntKind.u8.wrap (((BitVec.ofInt 8 (a : Int) ^^^ BitVec.ofInt 8 (b : Int)).toNat : Nat) : Int) = _
  rw [BitVec.toNat_xor, BitVec.ofInt_natCast, BitVec.ofInt_natCast, BitVec.toNat_ofNat, BitVec.toNat_ofNat, h1, h2, IntWalk.u8_in _ (by omega)]
theorem u32_and_one (a : Nat) (ha : a < 4294967296) : bits .and .u32 (a : Int) 1 = ((a % 2 : Nat) : Int) := by
  have h1 : a % 2 ^ 32 = a := Nat.mod_eq_of_lt ha
  show IntKind.u32.wrap (((BitVec.ofInt 32 (a : Int) &&& BitVec.ofInt 32 ((1 : Nat) : Int)).toNat : Nat) : Int) = _
  rw [BitVec.toNat_and, BitVec.ofInt_natCast, BitVec.ofInt_natCast, BitVec.toNat_ofNat, BitVec.toNat_ofNat, h1, show 1 % 2 ^ 32 = 1 from rfl, Nat.and_one_is_mod, IntWalk.u32_in _ (by omega)]
/-- one step, as the code has it. -/
theorem step_u32 {x : Nat} (hx : x < 4294967296) : bits .xor .u32 ((x : Int) / 2) (2197175160 * bits .and .u32 (x : Int) 1 % 4294967296) = ((stp x : Nat) : Int) := by
  rw [u32_and_one x hx]
  have e1 : (x : Int) / 2 = ((x / 2 : Nat) : Int) := by omega
  have e2 : (2197175160 : Int) * ((x % 2 : Nat) : Int) % 4294967296 = ((poly * (x % 2) : Nat) : Int) := by
    have : x % 2 = 0 ∨ x % 2 = 1 := by omega
    unfold poly
    rcases this with e | e <;> rw [e] <;> rfl
  rw [e1, e2, u32_xor_nat _ _ (by omega) (by unfold poly; omega)]
  rfl
def tblA (k : Nat) : Array Value := ((List.range 256).map fun j => Value.int .u32 (if j < k then stpN 8 j else 0 : Nat)).toArray
theorem tbl_zero : Tryz.zeroCells192 = tblA 0 := by kernel_rfl
theorem tbl_size (k : Nat) : (tblA k).size = 256 := by simp [tblA]
theorem tbl_set (k : Nat) : (tblA k).setIfInBounds k (.int .u32 (stpN 8 k)) = tblA (k + 1) := by
  apply Array.ext
  · simp [tblA]
  · intro i h1 h2
    simp only [tblA, List.setIfInBounds_toArray, List.getElem_toArray, List.getElem_set, List.getElem_map, List.getElem_range]
    by_cases e : k = i
    · subst e; simp
    · rw [if_neg e]
      have : (i < k) = (i < k + 1) := by apply propext; omega
      simp only [this]
theorem tbl_at {j : Nat} (hj : j < 256) : (tblA 256)[j]? = some (.int .u32 (stpN 8 j)) := by
  simp [tblA, hj]
theorem tbl_one (k : Nat) : (tblA k).all (·.oneCell') = true := by
  rw [Array.all_eq_true]
  intro i hi
  simp [tblA]
  rfl
theorem Tryz.infoT : (Tryz.prog.info? 192).map (·.size) = some 256 := by kernel_rfl
/-- a whole row is stored. -/
theorem wp_store_tbl {ops : Array Oper} {rest : List Oper} {o : Oper} {a : Act} {w : World} {Q : Exit → Act → World → Prop} (hgd : o.guard = none) (x y : Operand) (ho : o.op = .store 192 x y)
    {g : Nat} (hx : a.eval x = .pointer (some ⟨g, 0, none⟩)) (hy : a.eval y = .agg (tblA 256)) (old : Array Value) (hg : Blk w g 192 old) (hold : old.size = 256)
    (h : ∀ w', Blk w' g 192 (tblA 256) → w.grownBy w' (some g) → wpList Tryz.prog ops Q rest (a.put o.dst undef) w') : wpList Tryz.prog ops Q (o :: rest) a w :=
  wpList_store_row hgd _ x y ho g (tblA 256) hx hy _ old hg (by rw [tbl_size]; exact Tryz.infoT) (by rw [tbl_size]; exact hold) (tbl_one _)
    (h _ (setRow_heap w g _ _ _ _ hg) ⟨rfl, rfl, rfl, by simp [World.setRow], fun k _ hk => setRow_other w g k _ (fun e => hk (by rw [e]))⟩)
theorem table_any (w : World) : Calls Tryz.prog 146 #[] w fun e w' => e = .returned (.agg (tblA 256)) ∧ w.grownBy w' none := by
  go_enter Tryz.func146, Tryz.ntmps146
  go_wp2
  go_loopw [1, 2, 3] (fun _ _ i wr => ∃ k : Nat, k ≤ 256 ∧ i = .int .i64 k ∧ Blk wr w.heap.size 192 (tblA k) ∧ w.grownBy wr none) (fun _ _ i _ => 256 - (intOf i).toNat)
  case atStart => exact ⟨0, by omega, rfl, by rw [← tbl_zero]; exact Blk.new w _ _, gr_alloc _ _ none⟩
  case round =>
    obtain ⟨k, hk, rfl, hb, hg⟩ := hrel
    by_cases hlt : k < 256
    · go_wp2
      go_loop [2, 8] (fun x i => ∃ j : Nat, j ≤ 8 ∧ i = .int .i64 j ∧ x = .int .u32 (stpN j k)) (fun _ i => 8 - (intOf i).toNat)
      case atStart => exact ⟨0, by omega, rfl, by simp [stpN]⟩
      case round =>
        obtain ⟨j, hj, rfl, rfl⟩ := hrel
        by_cases hlj : j < 8
        · have hx := stpN_lt j (show k < 2 ^ 32 by omega)
          have hs := step_u32 hx
          rw [← stpN_succ] at hs
          have HS := Lib.hid hs
          clear hs
          generalize hxx : stpN j k = x at *
          clear hxx
          go_wp2
          go_round
          case rel => exact ⟨j + 1, by omega, by go_num, by rw [HS.out]⟩
          case measure => simp [intOf]; omega
        · obtain rfl : j = 8 := by omega
          have hc : ∃ u, wr.cell? ⟨w.heap.size, k, none⟩ = some u := ⟨_, by rw [hb.cell, Array.getElem?_eq_getElem (by rw [tbl_size]; exact hlt)]⟩
          obtain ⟨u, hcu⟩ := hc
          have hf := hb.frozen k
          have hb2 := hb.set k (.int .u32 (stpN 8 k))
          rw [tbl_set] at hb2
          have HB2 := Lib.hid hb2
          have HG := Lib.hid hg
          generalize hxx : stpN 8 k = x at *
          clear hxx hb2 hb hg
          go_wp2
          go_roundw
          case rel => exact ⟨k + 1, by omega, by go_num, HB2.out, gr_set_new HG.out _ _ (Nat.le_refl _)⟩
          case measure => simp [intOf]; omega
    · obtain rfl : k = 256 := by omega
      have HG := Lib.hid hg
      have HB := Lib.hid hb
      clear hg hb
      go_wp2_with (first
        | (refine wpList_load_row rfl _ (.tmp 0) rfl w.heap.size rfl _ (tblA 256) (0, 0) _ HB.out Tryz.underlying192 rfl (by rw [tbl_size]; exact Tryz.infoT) ?_)
        | (refine wp_store_tbl rfl (.tmp 0) (.tmp 21) rfl rfl rfl (tblA 256) HB.out (tbl_size _) ?_; intro w2 hb2 g2))
      refine bodyPost_ret (v := .agg (tblA 256)) (results_cell_row rfl _ _ w.heap.size _ (tblA 256) (0, 0) _ rfl hb2 Tryz.underlying192 rfl (by rw [tbl_size]; exact Tryz.infoT)) rfl ⟨rfl, gr_trans HG.out g2 (.inr fun k e => by cases e; exact Nat.le_refl _)⟩
theorem max_xor {x : Nat} (hx : x < 2 ^ 32) : 4294967295 ^^^ x = 4294967295 - x := by
  apply Nat.eq_of_testBit_eq
  intro i
  rw [Nat.testBit_xor, show (4294967295 : Nat) = 2 ^ 32 - 1 from rfl, Nat.testBit_two_pow_sub_one, show 2 ^ 32 - 1 - x = 2 ^ 32 - (x + 1) from by omega, Nat.testBit_two_pow_sub_succ hx]
  by_cases h : i < 32
  · simp [h]
  · have : x.testBit i = false := Nat.testBit_lt_two_pow (Nat.lt_of_lt_of_le hx (Nat.pow_le_pow_right (by omega) (by omega)))
    simp [h, this]
theorem not_u32 {x : Nat} (hx : x < 4294967296) : bits .xor .u32 IntKind.u32.max (x : Int) = ((4294967295 - x : Nat) : Int) := by
  have e : IntKind.u32.max = ((4294967295 : Nat) : Int) := rfl
  rw [e, u32_xor_nat _ _ (by omega) hx, max_xor hx]
theorem not_u32' {x : Nat} (hx : x < 4294967296) : bits .xor .u32 (x : Int) 4294967295 = ((4294967295 - x : Nat) : Int) := by
  have e : (4294967295 : Int) = ((4294967295 : Nat) : Int) := rfl
  rw [e, u32_xor_nat _ _ hx (by omega), Nat.xor_comm, max_xor hx]
/-- one byte, by the table. -/
theorem tab_u32 {x b : Nat} (hx : x < 4294967296) (hb : b < 256) : bits .xor .u32 ((x : Int) / 256) ((stpN 8 (x % 256 ^^^ b) : Nat) : Int) = ((crc1 x b : Nat) : Int) := by
  have h1 := stpN_lt 8 (x := x % 256 ^^^ b) (xor_lt (by omega) (by omega))
  have e : (x : Int) / 256 = ((x / 256 : Nat) : Int) := by omega
  rw [e, u32_xor_nat _ _ (by omega) h1, crc1_table x b hb]
theorem extend_any (s : Nat) (hs : s < 4294967296) (v : Value) (l : List UInt8) (w : World) (h : RdB w v l) (hl : l.length ≤ 1000000000) :
    Calls Tryz.prog 129 #[.int .u32 s, v] w fun e w' => e = .returned (.int .u32 (crcE s l)) ∧ w.grownBy w' none := by
  obtain ⟨A, c, rfl⟩ := h.form
  have H := Lib.hid h
  clear h
  go_enter Tryz.func129, Tryz.ntmps129
  go_wp2_with fail
  refine (table_any _).mono ?_
  rintro e w1 ⟨rfl, g1⟩
  have hb1 := Blk.new w1 192 Tryz.zeroCells192
  have HB1 := Lib.hid hb1
  clear hb1
  have hsg : IntKind.u32.signed = false := rfl
  have hno := not_u32 hs
  go_wp2_with (refine wp_store_tbl rfl (.tmp 5) (.tmp 8) rfl rfl rfl _ HB1.out (by rw [tbl_zero]; exact tbl_size _) ?_; intro w2 hb2 g2)
  have hr2 : RdB w2 (.slice A l.length c) l := H.out.ext (gr_trans (gr_none g1 (gr_alloc _ _ none)) g2 (.inr fun k e => by cases e; exact g1.size))
  have G2 : Hid (w.grownBy w2 none) := gr_trans (gr_none g1 (gr_alloc _ _ none)) g2 (.inr fun k e => by cases e; exact g1.size)
  obtain ⟨_, A', c', g, off, e, hnc, _, _, hA, hx⟩ := hr2
  cases e
  have HA := Lib.hid hA
  have HX := Lib.hid hx
  have HB2 := Lib.hid hb2
  clear hno hA hx hb2 g2 g1 HB1
  go_loop [6, 7, 13] (fun x _ i => ∃ k : Nat, k ≤ l.length ∧ i = .int .i64 k ∧ x = .int .u32 (crcL (4294967295 - s) (l.take k))) (fun _ _ i => l.length - (intOf i).toNat)
  case atStart => exact ⟨0, by omega, rfl, by simp [crcL]⟩
  case round =>
    obtain ⟨k, hk, rfl, rfl⟩ := hrel
    have hcl := crcL_lt (show 4294967295 - s < 2 ^ 32 by omega) (l.take k)
    by_cases hlt : k < l.length
    · obtain rfl := HA.out (by omega)
      have hcell : w2.cell? ⟨g, off + k, none⟩ = some (.int .u8 l[k].toNat) := by rw [HX.out k (by omega)]; simp [u8v, hlt]
      have hsn : crcL (4294967295 - s) (l.take (k + 1)) = crc1 (crcL (4294967295 - s) (l.take k)) l[k].toNat := by rw [take_snoc hlt, crcL_snoc]
      have HSN := Lib.hid hsn
      have hb := l[k].toNat_lt
      clear hsn
      generalize hxx : crcL (4294967295 - s) (l.take k) = x at *
      clear hxx
      generalize l[k].toNat = b at *
      obtain ⟨j, hj⟩ : ∃ j, j = x % 256 ^^^ b := ⟨_, rfl⟩
      have hjl : j < 256 := by rw [hj]; exact xor_lt (n := 8) (by omega) (by omega)
      have hidx : bits .xor .u8 ((x : Int) % 256) (b : Int) = (j : Int) := by
        have e : (x : Int) % 256 = ((x % 256 : Nat) : Int) := by omega
        rw [e, u8_xor_nat _ _ (by omega) hb, hj]
      have htc : w2.cell? ⟨w1.heap.size, j, none⟩ = some (.int .u32 (stpN 8 j)) := by rw [HB2.out.cell, tbl_at hjl]
      have hres := tab_u32 hcl hb
      rw [← hj] at hres
      have hst := stpN_lt 8 (x := j) (by omega)
      generalize stpN 8 j = tj at *
      clear hj
      go_wp2
      go_round
      case rel => exact ⟨k + 1, by omega, by go_num, by rw [HSN.out]⟩
      case measure => simp [intOf]; omega
    · obtain rfl : k = l.length := by omega
      rw [List.take_length]
      rw [List.take_length] at hcl
      have hno := not_u32 hcl
      have HE : Hid (((4294967295 - crcL (4294967295 - s) l : Nat) : Int) = (crcE s l : Nat)) := rfl
      go_wp2
      go_ret
      exact ⟨by rw [← HE.out]; rfl, G2.out⟩
theorem sum_any (v : Value) (l : List UInt8) (w : World) (h : RdB w v l) (hl : l.length ≤ 1000000000) :
    Calls Tryz.prog 107 #[v] w fun e w' => e = .returned (.int .u32 (crcS l)) ∧ w.grownBy w' none := by
  have H := Lib.hid (extend_any 0 (by omega) v l w h hl)
  go_enter Tryz.func107, Tryz.ntmps107
  go_wp2_with (go_at_call 129; refine H.out.mono ?_; rintro e w1 ⟨rfl, g1⟩)
  go_ret
  exact ⟨rfl, g1⟩
/-! the reference -/
theorem stp_cases (x : Nat) : stp x = if x % 2 = 1 then x / 2 ^^^ poly else x / 2 := by
  unfold stp
  by_cases h : x % 2 = 1
  · rw [if_pos h, h, Nat.mul_one]
  · rw [if_neg h, show x % 2 = 0 from by omega, Nat.mul_zero, Nat.xor_zero]
theorem rextend_any (s : Nat) (hs : s < 4294967296) (v : Value) (l : List UInt8) (w : World) (h : RdB w v l) (hl : l.length ≤ 1000000000) :
    Calls Tryz.prog 132 #[.int .u32 s, v] w fun e w' => e = .returned (.int .u32 (crcE s l)) ∧ w = w' := by
  obtain ⟨_, A, c, g, off, rfl, hnc, _, _, hA, hx⟩ := h
  have HA := Lib.hid hA
  have HX := Lib.hid hx
  have hno := not_u32' hs
  clear hA hx
  go_enter Tryz.func132, Tryz.ntmps132
  go_wp2
  clear hno
  go_loop [5, 6, 7, 8] (fun x i _ _ => ∃ k : Nat, k ≤ l.length ∧ i = .int .i64 k ∧ x = .int .u32 (crcL (4294967295 - s) (l.take k))) (fun _ i _ _ => l.length - (intOf i).toNat)
  case atStart => exact ⟨0, by omega, rfl, by simp [crcL]⟩
  case round =>
    obtain ⟨k, hk, rfl, rfl⟩ := hrel
    have hcl := crcL_lt (show 4294967295 - s < 2 ^ 32 by omega) (l.take k)
    by_cases hlt : k < l.length
    · obtain rfl := HA.out (by omega)
      have hcell : w.cell? ⟨g, off + k, none⟩ = some (.int .u8 l[k].toNat) := by rw [HX.out k (by omega)]; simp [u8v, hlt]
      have hsn : crcL (4294967295 - s) (l.take (k + 1)) = stpN 8 (crcL (4294967295 - s) (l.take k) ^^^ l[k].toNat) := by rw [take_snoc hlt, crcL_snoc]; rfl
      have HSN := Lib.hid hsn
      have hb := l[k].toNat_lt
      clear hsn
      generalize hxx : crcL (4294967295 - s) (l.take k) = x at *
      clear hxx
      generalize l[k].toNat = b at *
      have hxb := u32_xor_nat x b hcl (by omega)
      have hyl := xor_lt (n := 32) hcl (show b < 2 ^ 32 by omega)
      go_wp2
      clear hxb
      generalize x ^^^ b = y at *
      go_loop [5, 7, 8] (fun z i _ => ∃ j : Nat, j ≤ 8 ∧ i = .int .i64 j ∧ z = .int .u32 (stpN j y)) (fun _ i _ => 8 - (intOf i).toNat)
      case atStart => exact ⟨0, by omega, rfl, rfl⟩
      case round =>
        obtain ⟨j, hj, rfl, rfl⟩ := hrel
        by_cases hlj : j < 8
        · have hz := stpN_lt j hyl
          have hs1 := stpN_succ j y
          rw [stp_cases] at hs1
          have HS := Lib.hid hs1
          clear hs1
          generalize stpN j y = z at *
          have hxp := u32_xor_nat (z / 2) 2197175160 (by omega) (by omega)
          have ez : ((z / 2 : Nat) : Int) = (z : Int) / 2 := by omega
          rw [ez] at hxp
          by_cases hod : (z : Int) % 2 = 1
          · have hq : Hid (stpN (j + 1) y = z / 2 ^^^ 2197175160) := by show _ = _; rw [HS.out, if_pos (by omega)]; rfl
            go_wp2
            go_round
            case rel => exact ⟨j + 1, by omega, by go_num, by rw [hq.out]; exact congrArg (Value.int .u32) hxp⟩
            case measure => simp [intOf]; omega
          · have hq : Hid (stpN (j + 1) y = z / 2) := by show _ = _; rw [HS.out, if_neg (by omega)]
            have hbf : ((z : Int) % 2 == 1) = false := by rw [beq_eq_false_iff_ne]; exact hod
            go_wp2
            go_round
            case rel => exact ⟨j + 1, by omega, by go_num, by rw [hq.out]; go_num⟩
            case measure => simp [intOf]; omega
        · obtain rfl : j = 8 := by omega
          go_wp2
          go_round
          case rel => exact ⟨k + 1, by omega, by go_num, by rw [HSN.out]⟩
          case measure => simp [intOf]; omega
    · obtain rfl : k = l.length := by omega
      rw [List.take_length]
      rw [List.take_length] at hcl
      have hno := not_u32' hcl
      have HE : Hid (((4294967295 - crcL (4294967295 - s) l : Nat) : Int) = (crcE s l : Nat)) := rfl
      go_wp2
      go_ret
      exact ⟨by rw [← HE.out]; rfl, rfl⟩
theorem rsum_any (v : Value) (l : List UInt8) (w : World) (h : RdB w v l) (hl : l.length ≤ 1000000000) :
    Calls Tryz.prog 115 #[v] w fun e w' => e = .returned (.int .u32 (crcS l)) ∧ w = w' := by
  have H := Lib.hid (rextend_any 0 (by omega) v l w h hl)
  go_enter Tryz.func115, Tryz.ntmps115
  go_wp2_with (go_at_call 132; refine H.out.mono ?_; rintro e w1 ⟨rfl, rfl⟩)
  go_ret
  exact ⟨rfl, rfl⟩
end Go.Proofs.YtipankjajdpiiaaGreat
