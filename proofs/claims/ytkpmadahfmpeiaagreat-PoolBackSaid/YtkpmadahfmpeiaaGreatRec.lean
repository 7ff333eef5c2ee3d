/-
  crc: the table, sums, and the reference's.
-/
import Derived.Test.YtkpmadahfmpeiaaGreatPgP
import Derived.Test.YtkpmadahfmpeiaaGreatMem
import Derived.Laws.Tables
import Derived.Laws.Rows
import Derived.Test.YtkpmadahfmpeiaaGreatOct
namespace Go.Proofs.YtkpmadahfmpeiaaGreat
open Go.RowKit
set_option maxRecDepth 100000
set_option maxHeartbeats 400000

theorem u32_xor_nat (a b : Nat) (ha : a < 4294967296) (hb : b < 4294967296) : bits .xor .u32 (a : Int) (b : Int) = ((a ^^^ b : Nat) : Int) := by
  have h := xor_lt (n := 32) ha hb
  have h1 : a % 2 ^ 32 = a := Nat.mod_eq_of_lt ha
  have h2 : b % 2 ^ 32 = b := Nat.mod_eq_of_lt hb
  show IntKind.u32.wrap (((BitVec.ofInt 32 (a : Int) ^^^ BitVec.ofInt 32 (b : Int)).toNat : Nat) : Int) = _
  rw [BitVec.toNat_xor, BitVec.ofInt_natCast, BitVec.ofInt_natCast, BitVec.toNat_ofNat, BitVec.toNat_ofNat, h1, h2, IntWalk.u32_in _ (by omega)]
theorem u8_xor_nat (a b : Nat) (ha : a < 256) (hb : b < 256) : bits .xor .u8 (a : Int) (b : Int) = ((a ^^^ b : Nat) : Int) := by
  have h := xor_lt (n := 8) ha hb
  have h1 : a % 2 ^ 8 = a := Nat.mod_eq_of_lt ha
  have h2 : b % 2 ^ 8 = b := Nat.mod_eq_of_lt hb
  show IntKind.u8.wrap (((BitVec.ofInt 8 (a : Int) ^^^ BitVec.ofInt 8 (b : Int)).toNat : Nat) : Int) = _
  rw [BitVec.toNat_xor, BitVec.ofInt_natCast, BitVec.ofInt_natCast, BitVec.toNat_ofNat, BitVec.toNat_ofNat, h1, h2, IntWalk.u8_in _ (by omega)]
theorem u32_and_one (a : Nat) (ha : a < 4294967296) : bits .and .u32 (a : Int) 1 = ((a % 2 : Nat) : Int) := by
  have h1 : a % 2 ^ 32 = a := Nat.mod_eq_of_lt ha
  show IntKind.u32.wrap (((BitVec.ofInt 32 (a : Int) &&& BitVec.ofInt 32 ((1 : Nat) : Int)).toNat : Nat) : Int) = _
  rw [BitVec.toNat_and, BitVec.ofInt_natCast, BitVec.ofInt_natCast, BitVec.toNat_ofNat, BitVec.toNat_ofNat, h1, show 1 % 2 ^ 32 = 1 from rfl, Nat.and_one_is_mod, IntWalk.u32_in _ (by omega)]
/-- one step, as the code has it. -/
theorem step_u32 {x : Nat} (hx : x < 4294967296) : bits .xor .u32 ((x : Int) / 2) (2197175160 * bits .and .u32 (x : Int) 1 % 4294967296) = ((stp x : Nat) : Int) := by
  rw [u32_and_one x hx]
  have e1 : (x : Int) / 2 = ((x / 2 : Nat) : Int) := by omega
  have e2 : (2197175160 : Int) * ((x % 2 : Nat) : Int) % 4294967296 = ((poly * (x % 2) : Nat) : Int) := by
    have : x % 2 = 0 ∨ x % 2 = 1 := by omega
    unfold poly
    rcases this with e | e <;> rw [e] <;> rfl
  rw [e1, e2, u32_xor_nat _ _ (by omega) (by unfold poly; omega)]
  rfl
def tblA (k : Nat) : Array Value := ((List.range 256).map fun j => Value.int .u32 (if j < k then stpN 8 j else 0 : Nat)).toArray
theorem tbl_zero : Tryz.zeroCells254 = tblA 0 := by kernel_rfl
theorem tbl_size (k : Nat) : (tblA k).size = 256 := by simp [tblA]
theorem tbl_set (k : Nat) : (tblA k).setIfInBounds k (.int .u32 (stpN 8 k)) = tblA (k + 1) := by
  apply Array.ext
  · simp [tblA]
  · intro i h1 h2
    simp only [tblA, List.setIfInBounds_toArray, List.getElem_toArray, List.getElem_set, List.getElem_map, List.getElem_range]
    by_cases e : k = i
    · subst e; simp
    · rw [if_neg e]
      have : (i < k) = (i < k + 1) := by apply propext; omega
      simp only [this]
theorem tbl_at {j : Nat} (hj : j < 256) : (tblA 256)[j]? = some (.int .u32 (stpN 8 j)) := by
  simp [tblA, hj]
theorem tbl_one (k : Nat) : (tblA k).all (·.oneCell') = true := by
  rw [Array.all_eq_true]
  intro i hi
  simp [tblA]
  rfl
theorem Tryz.infoT : (Tryz.prog.info? 254).map (·.size) = some 256 := by kernel_rfl
/-- a whole row is stored. -/
theorem wp_store_tbl {ops : Array Oper} {rest : List Oper} {o : Oper} {a : Act} {w : World} {Q : Exit → Act → World → Prop} (hgd : o.guard = none) (x y : Operand) (ho : o.op = .store 254 x y)
    {g : Nat} (hx : a.eval x = .pointer (some ⟨g, 0, none⟩)) (hy : a.eval y = .agg (tblA 256)) (old : Array Value) (hg : Blk w g 254 old) (hold : old.size = 256)
    (h : ∀ w', Blk w' g 254 (tblA 256) → w.grownBy w' (some g) → wpList Tryz.prog ops Q rest (a.put o.dst undef) w') : wpList Tryz.prog ops Q (o :: rest) a w :=
  wpList_store_row hgd _ x y ho g (tblA 256) hx hy _ old hg (by rw [tbl_size]; exact Tryz.infoT) (by rw [tbl_size]; exact hold) (tbl_one _)
    (h _ (setRow_heap w g _ _ _ _ hg) ⟨rfl, rfl, rfl, by simp [World.setRow], fun k _ hk => setRow_other w g k _ (fun e => hk (by rw [e]))⟩)
theorem table_any (w : World) : Calls Tryz.prog 207 #[] w fun e w' => e = .returned (.agg (tblA 256)) ∧ w.grownBy w' none := by
  go_enter Tryz.func207, Tryz.ntmps207
  go_wp2
  go_loopw [1, 2, 3] (fun _ _ i wr => ∃ k : Nat, k ≤ 256 ∧ i = .int .i64 k ∧ Blk wr w.heap.size 254 (tblA k) ∧ w.grownBy wr none) (fun _ _ i _ => 256 - (intOf i).toNat)
  case atStart => exact ⟨0, by omega, rfl, by rw [← tbl_zero]; exact Blk.new w _ _, gr_alloc _ _ none⟩
  case round =>
    obtain ⟨k, hk, rfl, hb, hg⟩ := hrel
    by_cases hlt : k < 256
    · go_wp2
      go_loop [2, 8] (fun x i => ∃ j : Nat, j ≤ 8 ∧ i = .int .i64 j ∧ x = .int .u32 (stpN j k)) (fun _ i => 8 - (intOf i).toNat)
      case atStart => exact ⟨0, by omega, rfl, by simp [stpN]⟩
      case round =>
        obtain ⟨j, hj, rfl, rfl⟩ := hrel
        by_cases hlj : j < 8
        · have hx := stpN_lt j (show k < 2 ^ 32 by omega)
          have hs := step_u32 hx
          rw [← stpN_succ] at hs
          have HS := Lib.hid hs
          clear hs
          generalize hxx : stpN j k = x at *
          clear hxx
          go_wp2
          go_round
          case rel => exact ⟨j + 1, by omega, by go_num, by rw [HS.out]⟩
          case measure => simp [intOf]; omega
        · obtain rfl : j = 8 := by omega
          have hc : ∃ u, wr.cell? ⟨w.heap.size, k, none⟩ = some u := ⟨_, by rw [hb.cell, Array.getElem?_eq_getElem (by rw [tbl_size]; exact hlt)]⟩
          obtain ⟨u, hcu⟩ := hc
          have hf := hb.frozen k
          have hb2 := hb.set k (.int .u32 (stpN 8 k))
          rw [tbl_set] at hb2
          have HB2 := Lib.hid hb2
          have HG := Lib.hid hg
          generalize hxx : stpN 8 k = x at *
          clear hxx hb2 hb hg
          go_wp2
          go_roundw
          case rel => exact ⟨k + 1, by omega, by go_num, HB2.out, gr_set_new HG.out _ _ (Nat.le_refl _)⟩
          case measure => simp [intOf]; omega
    · obtain rfl : k = 256 := by omega
      have HG := Lib.hid hg
      have HB := Lib.hid hb
      clear hg hb
      go_wp2_with (first
        | (refine wpList_load_row rfl _ (.tmp 0) rfl w.heap.size rfl _ (tblA 256) (0, 0) _ HB.out Tryz.underlying254 rfl (by rw [tbl_size]; exact Tryz.infoT) ?_)
        | (refine wp_store_tbl rfl (.tmp 0) (.tmp 21) rfl rfl rfl (tblA 256) HB.out (tbl_size _) ?_; intro w2 hb2 g2))
      refine bodyPost_ret (v := .agg (tblA 256)) (results_cell_row rfl _ _ w.heap.size _ (tblA 256) (0, 0) _ rfl hb2 Tryz.underlying254 rfl (by rw [tbl_size]; exact Tryz.infoT)) rfl ⟨rfl, gr_trans HG.out g2 (.inr fun k e => by cases e; exact Nat.le_refl _)⟩
theorem max_xor {x : Nat} (hx : x < 2 ^ 32) : 4294967295 ^^^ x = 4294967295 - x := by
  apply Nat.eq_of_testBit_eq
  intro i
  rw [Nat.testBit_xor, show (4294967295 : Nat) = 2 ^ 32 - 1 from rfl, Nat.testBit_two_pow_sub_one, show 2 ^ 32 - 1 - x = 2 ^ 32 - (x + 1) from by omega, Nat.testBit_two_pow_sub_succ hx]
  by_cases h : i < 32
  · simp [h]
  · have : x.testBit i = false := Nat.testBit_lt_two_pow (Nat.lt_of_lt_of_le hx (Nat.pow_le_pow_right (by omega) (by omega)))
    simp [h, this]
theorem not_u32 {x : Nat} (hx : x < 4294967296) : bits .xor .u32 IntKind.u32.max (x : Int) = ((4294967295 - x : Nat) : Int) := by
  have e : IntKind.u32.max = ((4294967295 : Nat) : Int) := rfl
  rw [e, u32_xor_nat _ _ (by omega) hx, max_xor hx]
theorem not_u32' {x : Nat} (hx : x < 4294967296) : bits .xor .u32 (x : Int) 4294967295 = ((4294967295 - x : Nat) : Int) := by
  have e : (4294967295 : Int) = ((4294967295 : Nat) : Int) := rfl
  rw [e, u32_xor_nat _ _ hx (by omega), Nat.xor_comm, max_xor hx]
/-- one byte, by the table. -/
theorem tab_u32 {x b : Nat} (hx : x < 4294967296) (hb : b < 256) : bits .xor .u32 ((x : Int) / 256) ((stpN 8 (x % 256 ^^^ b) : Nat) : Int) = ((crc1 x b : Nat) : Int) := by
  have h1 := stpN_lt 8 (x := x % 256 ^^^ b) (xor_lt (by omega) (by omega))
  have e : (x : Int) / 256 = ((x / 256 : Nat) : Int) := by omega
  rw [e, u32_xor_nat _ _ (by omega) h1, crc1_table x b hb]
theorem extend_any (s : Nat) (hs : s < 4294967296) (v : Value) (l : List UInt8) (w : World) (h : RdB w v l) (hl : l.length ≤ 1000000000) :
    Calls Tryz.prog 190 #[.int .u32 s, v] w fun e w' => e = .returned (.int .u32 (crcE s l)) ∧ w.grownBy w' none := by
  obtain ⟨A, c, rfl⟩ := h.form
  have H := Lib.hid h
  clear h
  go_enter Tryz.func190, Tryz.ntmps190
  go_wp2_with fail
  refine (table_any _).mono ?_
  rintro e w1 ⟨rfl, g1⟩
  have hb1 := Blk.new w1 254 Tryz.zeroCells254
  have HB1 := Lib.hid hb1
  clear hb1
  have hsg : IntKind.u32.signed = false := rfl
  have hno := not_u32 hs
  go_wp2_with (refine wp_store_tbl rfl (.tmp 5) (.tmp 8) rfl rfl rfl _ HB1.out (by rw [tbl_zero]; exact tbl_size _) ?_; intro w2 hb2 g2)
  have hr2 : RdB w2 (.slice A l.length c) l := H.out.ext (gr_trans (gr_none g1 (gr_alloc _ _ none)) g2 (.inr fun k e => by cases e; exact g1.size))
  have G2 : Hid (w.grownBy w2 none) := gr_trans (gr_none g1 (gr_alloc _ _ none)) g2 (.inr fun k e => by cases e; exact g1.size)
  obtain ⟨_, A', c', g, off, e, hnc, _, _, hA, hx⟩ := hr2
  cases e
  have HA := Lib.hid hA
  have HX := Lib.hid hx
  have HB2 := Lib.hid hb2
  clear hno hA hx hb2 g2 g1 HB1
  go_loop [6, 7, 13] (fun x _ i => ∃ k : Nat, k ≤ l.length ∧ i = .int .i64 k ∧ x = .int .u32 (crcL (4294967295 - s) (l.take k))) (fun _ _ i => l.length - (intOf i).toNat)
  case atStart => exact ⟨0, by omega, rfl, by simp [crcL]⟩
  case round =>
    obtain ⟨k, hk, rfl, rfl⟩ := hrel
    have hcl := crcL_lt (show 4294967295 - s < 2 ^ 32 by omega) (l.take k)
    by_cases hlt : k < l.length
    · obtain rfl := HA.out (by omega)
      have hcell : w2.cell? ⟨g, off + k, none⟩ = some (.int .u8 l[k].toNat) := by rw [HX.out k (by omega)]; simp [u8v, hlt]
      have hsn : crcL (4294967295 - s) (l.take (k + 1)) = crc1 (crcL (4294967295 - s) (l.take k)) l[k].toNat := by rw [take_snoc hlt, crcL_snoc]
      have HSN := Lib.hid hsn
      have hb := l[k].toNat_lt
      clear hsn
      generalize hxx : crcL (4294967295 - s) (l.take k) = x at *
      clear hxx
      generalize l[k].toNat = b at *
      obtain ⟨j, hj⟩ : ∃ j, j = x % 256 ^^^ b := ⟨_, rfl⟩
      have hjl : j < 256 := by rw [hj]; exact xor_lt (n := 8) (by omega) (by omega)
      have hidx : bits .xor .u8 ((x : Int) % 256) (b : Int) = (j : Int) := by
        have e : (x : Int) % 256 = ((x % 256 : Nat) : Int) := by omega
        rw [e, u8_xor_nat _ _ (by omega) hb, hj]
      have htc : w2.cell? ⟨w1.heap.size, j, none⟩ = some (.int .u32 (stpN 8 j)) := by rw [HB2.out.cell, tbl_at hjl]
      have hres := tab_u32 hcl hb
      rw [← hj] at hres
      have hst := stpN_lt 8 (x := j) (by omega)
      generalize stpN 8 j = tj at *
      clear hj
      go_wp2
      go_round
      case rel => exact ⟨k + 1, by omega, by go_num, by rw [HSN.out]⟩
      case measure => simp [intOf]; omega
    · obtain rfl : k = l.length := by omega
      rw [List.take_length]
      rw [List.take_length] at hcl
      have hno := not_u32 hcl
      have HE : Hid (((4294967295 - crcL (4294967295 - s) l : Nat) : Int) = (crcE s l : Nat)) := rfl
      go_wp2
      go_ret
      exact ⟨by rw [← HE.out]; rfl, G2.out⟩
theorem sum_any (v : Value) (l : List UInt8) (w : World) (h : RdB w v l) (hl : l.length ≤ 1000000000) :
    Calls Tryz.prog 147 #[v] w fun e w' => e = .returned (.int .u32 (crcS l)) ∧ w.grownBy w' none := by
  have H := Lib.hid (extend_any 0 (by omega) v l w h hl)
  go_enter Tryz.func147, Tryz.ntmps147
  go_wp2_with (go_at_call 190; refine H.out.mono ?_; rintro e w1 ⟨rfl, g1⟩)
  go_ret
  exact ⟨rfl, g1⟩
/-! the reference -/
theorem stp_cases (x : Nat) : stp x = if x % 2 = 1 then x / 2 ^^^ poly else x / 2 := by
  unfold stp
  by_cases h : x % 2 = 1
  · rw [if_pos h, h, Nat.mul_one]
  · rw [if_neg h, show x % 2 = 0 from by omega, Nat.mul_zero, Nat.xor_zero]
theorem rextend_any (s : Nat) (hs : s < 4294967296) (v : Value) (l : List UInt8) (w : World) (h : RdB w v l) (hl : l.length ≤ 1000000000) :
    Calls Tryz.prog 192 #[.int .u32 s, v] w fun e w' => e = .returned (.int .u32 (crcE s l)) ∧ w = w' := by
  obtain ⟨_, A, c, g, off, rfl, hnc, _, _, hA, hx⟩ := h
  have HA := Lib.hid hA
  have HX := Lib.hid hx
  have hno := not_u32' hs
  clear hA hx
  go_enter Tryz.func192, Tryz.ntmps192
  go_wp2
  clear hno
  go_loop [5, 6, 7, 8] (fun x i _ _ => ∃ k : Nat, k ≤ l.length ∧ i = .int .i64 k ∧ x = .int .u32 (crcL (4294967295 - s) (l.take k))) (fun _ i _ _ => l.length - (intOf i).toNat)
  case atStart => exact ⟨0, by omega, rfl, by simp [crcL]⟩
  case round =>
    obtain ⟨k, hk, rfl, rfl⟩ := hrel
    have hcl := crcL_lt (show 4294967295 - s < 2 ^ 32 by omega) (l.take k)
    by_cases hlt : k < l.length
    · obtain rfl := HA.out (by omega)
      have hcell : w.cell? ⟨g, off + k, none⟩ = some (.int .u8 l[k].toNat) := by rw [HX.out k (by omega)]; simp [u8v, hlt]
      have hsn : crcL (4294967295 - s) (l.take (k + 1)) = stpN 8 (crcL (4294967295 - s) (l.take k) ^^^ l[k].toNat) := by rw [take_snoc hlt, crcL_snoc]; rfl
      have HSN := Lib.hid hsn
      have hb := l[k].toNat_lt
      clear hsn
      generalize hxx : crcL (4294967295 - s) (l.take k) = x at *
      clear hxx
      generalize l[k].toNat = b at *
      have hxb := u32_xor_nat x b hcl (by omega)
      have hyl := xor_lt (n := 32) hcl (show b < 2 ^ 32 by omega)
      go_wp2
      clear hxb
      generalize x ^^^ b = y at *
      go_loop [5, 7, 8] (fun z i _ => ∃ j : Nat, j ≤ 8 ∧ i = .int .i64 j ∧ z = .int .u32 (stpN j y)) (fun _ i _ => 8 - (intOf i).toNat)
      case atStart => exact ⟨0, by omega, rfl, rfl⟩
      case round =>
        obtain ⟨j, hj, rfl, rfl⟩ := hrel
        by_cases hlj : j < 8
        · have hz := stpN_lt j hyl
          have hs1 := stpN_succ j y
          rw [stp_cases] at hs1
          have HS := Lib.hid hs1
          clear hs1
          generalize stpN j y = z at *
          have hxp := u32_xor_nat (z / 2) 2197175160 (by omega) (by omega)
          have ez : ((z / 2 : Nat) : Int) = (z : Int) / 2 := by omega
          rw [ez] at hxp
          by_cases hod : (z : Int) % 2 = 1
          · have hq : Hid (stpN (j + 1) y = z / 2 ^^^ 2197175160) := by show _ = _; rw [HS.out, if_pos (by omega)]; rfl
            go_wp2
            go_round
            case rel => exact ⟨j + 1, by omega, by go_num, by rw [hq.out]; exact congrArg (Value.int .u32) hxp⟩
            case measure => simp [intOf]; omega
          · have hq : Hid (stpN (j + 1) y = z / 2) := by show _ = _; rw [HS.out, if_neg (by omega)]
            have hbf : ((z : Int) % 2 == 1) = false := by rw [beq_eq_false_iff_ne]; exact hod
            go_wp2
            go_round
            case rel => exact ⟨j + 1, by omega, by go_num, by rw [hq.out]; go_num⟩
            case measure => simp [intOf]; omega
        · obtain rfl : j = 8 := by omega
          go_wp2
          go_round
          case rel => exact ⟨k + 1, by omega, by go_num, by rw [HSN.out]⟩
          case measure => simp [intOf]; omega
    · obtain rfl : k = l.length := by omega
      rw [List.take_length]
      rw [List.take_length] at hcl
      have hno := not_u32' hcl
      have HE : Hid (((4294967295 - crcL (4294967295 - s) l : Nat) : Int) = (crcE s l : Nat)) := rfl
      go_wp2
      go_ret
      exact ⟨by rw [← HE.out]; rfl, rfl⟩
theorem rsum_any (v : Value) (l : List UInt8) (w : World) (h : RdB w v l) (hl : l.length ≤ 1000000000) :
    Calls Tryz.prog 151 #[v] w fun e w' => e = .returned (.int .u32 (crcS l)) ∧ w = w' := by
  have H := Lib.hid (rextend_any 0 (by omega) v l w h hl)
  go_enter Tryz.func151, Tryz.ntmps151
  go_wp2_with (go_at_call 192; refine H.out.mono ?_; rintro e w1 ⟨rfl, rfl⟩)
  go_ret
  exact ⟨rfl, rfl⟩
end Go.Proofs.YtkpmadahfmpeiaaGreat

/- The references' numbers and bytes: packages milepostref00, milepostref01. -/
namespace Go.Proofs.YtkpmadahfmpeiaaGreat
open Go.RowKit
set_option maxRecDepth 100000
set_option maxHeartbeats 400000

theorem rsized_any (n : Int) (w : World) :
    Calls Tryz.prog 191 #[.int .i64 n] w fun e w' => e = .returned (.bool (szd n)) ∧ w = w' := by
  by_cases h1 : n = 1
  · subst h1
    have hs : Hid (szd 1 = true) := by unfold szd memI; exact rfl
    go_enter Tryz.func191, Tryz.ntmps191
    go_wp2
    go_ret
    exact ⟨by rw [hs.out]; rfl, rfl⟩
  by_cases h2 : n = 2
  · subst h2
    have hs : Hid (szd 2 = true) := by unfold szd memI; exact rfl
    go_enter Tryz.func191, Tryz.ntmps191
    go_wp2
    go_ret
    exact ⟨by rw [hs.out]; rfl, rfl⟩
  by_cases h4 : n = 4
  · subst h4
    have hs : Hid (szd 4 = true) := by unfold szd memI; exact rfl
    go_enter Tryz.func191, Tryz.ntmps191
    go_wp2
    go_ret
    exact ⟨by rw [hs.out]; rfl, rfl⟩
  have b1 : (n == 1) = false := by simpa using h1
  have b2 : (n == 2) = false := by simpa using h2
  have b4 : (n == 4) = false := by simpa using h4
  have Hs : Hid (szd n = (n == 8)) := by
    have : szd n = (n == 8) := by simp [szd, memI, h1, h2, h4]; rfl
    exact this
  clear h1 h2 h4
  go_enter Tryz.func191, Tryz.ntmps191
  go_wp2
  go_ret
  exact ⟨by rw [Hs.out]; rfl, rfl⟩

theorem copyBytes_any (v : Value) (l : List UInt8) (w : World) (h : RdB w v l) (hn : l.length ≤ 1000000000) :
    Calls Tryz.prog 48 #[v] w fun e w' => ∃ v', e = .returned v' ∧ OwnB w' w.heap.size v' l ∧ w.grownBy w' none := by
  obtain ⟨A, c, rfl⟩ := h.form
  rcases l with _ | ⟨b, l⟩
  · clear h
    go_enter Tryz.func48, Tryz.ntmps48
    go_wp2
    go_ret
    exact ⟨_, rfl, OwnB.nil _ _, gr_refl _ _⟩
  · have hs := run_str h
    generalize hl : b :: l = L at *
    have h0 : ((L.length : Int) == 0) = false := by subst hl; simp; omega
    clear h hl
    go_enter Tryz.func48, Tryz.ntmps48
    go_wp2_with (refine wp_bytes rfl (.tmp 7) rfl L rfl (by unfold maxLen; omega) ?_; rintro v' w' h1 g1 -)
    go_ret
    exact ⟨_, rfl, h1, g1⟩

theorem eqBytes_any (v v' : Value) (l l' : List UInt8) (w : World) (h : RdB w v l) (h' : RdB w v' l') :
    Calls Tryz.prog 15 #[v, v'] w fun e w' => e = .returned (.bool (l == l')) ∧ w = w' := by
  obtain ⟨A, c, rfl⟩ := h.form
  obtain ⟨A', c', rfl⟩ := h'.form
  have hs := run_str h
  have hs' := run_str h'
  clear h h'
  by_cases hl : l.length = l'.length
  · have hb : ((l.length : Int) == (l'.length : Int)) = true := by rw [beq_iff_eq]; omega
    have Hl := Lib.hid hl
    clear hl
    go_enter Tryz.func15, Tryz.ntmps15
    go_wp2
    go_ret
    exact ⟨rfl, rfl⟩
  · have hb : ((l.length : Int) == (l'.length : Int)) = false := by rw [beq_eq_false_iff_ne]; omega
    have Hl : Hid ((l == l') = false) := by
      have : (l == l') = false := by rw [beq_eq_false_iff_ne]; exact fun e => hl (by rw [e])
      exact this
    clear hl
    go_enter Tryz.func15, Tryz.ntmps15
    go_wp2
    go_ret
    exact ⟨by rw [Hl.out]; rfl, rfl⟩

theorem byteAt_tmod (x k : Nat) : ((x : Int) / 2 ^ (8 * k)).tmod 256 % 256 = ((byteAt x k).toNat : Int) := by
  have e : (x : Int) / 2 ^ (8 * k) = ((x / 2 ^ (8 * k) : Nat) : Int) := by simp
  rw [← byteAt_val, e, Int.tmod_eq_emod_of_nonneg (Int.natCast_nonneg _), ← e, Int.emod_emod]
theorem div_step (x k : Nat) (hx : x / 2 ^ (8 * k) ≤ 18446744073709551615) : IntKind.u64.wrap (((x : Int) / 2 ^ (8 * k)).tdiv 256) = ((x / 2 ^ (8 * (k + 1)) : Nat) : Int) := by
  have e : (x : Int) / 2 ^ (8 * k) = ((x / 2 ^ (8 * k) : Nat) : Int) := by simp
  rw [e]
  generalize hy : x / 2 ^ (8 * k) = y at *
  rw [IntWalk.u64_quo _ _ (by omega), show 8 * (k + 1) = 8 * k + 8 from by omega, Nat.pow_add, ← Nat.div_div_eq_div_mul, hy]
  omega
/-- the reference's bytes of a number. -/
theorem rput_i (S X : Int) (size x : Nat) (hS : S = (size : Int)) (hX : X = (x : Int)) (v : Value) (l : List UInt8) (w : World) (hx : x < 2 ^ 64) (hs : size = 1 ∨ size = 2 ∨ size = 4 ∨ size = 8) (hn : l.length ≤ 1000000000) (h : RdB w v l) :
    Calls Tryz.prog 150 #[v, .int .u64 X, .int .i64 S] w fun e w' => ∃ v', e = .returned v' ∧ OwnB w' w.heap.size v' (l ++ le x size) ∧ w.grownBy w' none := by
  subst hS hX
  have Hs : Hid (szd size = true) := (szd_iff _).2 (by omega)
  have hs8 : size ≤ 8 := by omega
  have Hx := Lib.hid hx
  clear hs hx
  go_enter Tryz.func150, Tryz.ntmps150
  go_wp2_with (go_at_call 48; refine (copyBytes_any v l _ h hn).mono ?_; rintro e w1 ⟨v1, rfl, h1, g1⟩)
  go_loopw [1, 7, 8] (fun X u i wr => ∃ k : Nat, k ≤ size ∧ i = .int .i64 k ∧ X = .int .u64 ((x / 2 ^ (8 * k) : Nat) : Int) ∧ OwnB wr w.heap.size u (l ++ le x k) ∧ w.grownBy wr none)
    (fun _ _ i _ => size - (intOf i).toNat)
  case atStart => exact ⟨0, by omega, rfl, by simp, by simpa [le] using h1, g1⟩
  case round =>
    obtain ⟨k, hk, rfl, rfl, hw, hb⟩ := hrel
    have hsz := hb.size
    have hp : x / 2 ^ (8 * k) ≤ 18446744073709551615 := by have := Hx.out; have := Nat.div_le_self x (2 ^ (8 * k)); omega
    by_cases hlt : k < size
    · have hlt' : decide ((k : Int) < size) = true := by simp; omega
      have hlen : (l ++ le x k).length ≤ 70000000000000 := by simp [length_le]; omega
      go_wp2_with (first | (go_at_call 191; refine (rsized_any _ _).mono ?_; rintro e w2 ⟨rfl, rfl⟩; rw [Hs.out]) | (at_builtin; refine wp_app1B (byteAt x k) _ ?_ rfl (.tmp 20) (.tmp 24) rfl rfl hw rfl hlen hsz ?_))
      · exact byteAt_tmod x k
      · intro v2 w2 h2 g2 a2
        go_wp2
        go_roundw
        case rel => exact ⟨k + 1, by omega, by go_num, by rw [div_step x k hp], by simpa [le_succ] using h2, gr_trans hb g2 (.inr fun j hj => Own.lt hw j hj)⟩
        case measure => simp [intOf]; omega
    · have : k = size := by omega
      subst this
      have hlt' : decide ((k : Int) < k) = false := by simp
      go_wp2
      go_ret
      exact ⟨_, rfl, hw, hb⟩

theorem get_step (l : List UInt8) (at_ size k : Nat) (hs : size ≤ 8) (hk : k + 1 ≤ size) (hl : at_ + k < l.length) :
    IntKind.u64.wrap (IntKind.u64.wrap (256 * (rdN (((l.drop at_).take size).drop (k + 1)) : Int)) + IntKind.u64.wrap (l[at_ + k].toNat : Int)) = (rdN (((l.drop at_).take size).drop k) : Int) := by
  have hlen : k < ((l.drop at_).take size).length := by simp; omega
  have e : ((l.drop at_).take size).drop k = l[at_ + k] :: ((l.drop at_).take size).drop (k + 1) := by
    rw [List.drop_eq_getElem_cons hlen, List.getElem_take, List.getElem_drop]
  have h1 := rdN_lt (((l.drop at_).take size).drop (k + 1))
  have h2 : 2 ^ (8 * (((l.drop at_).take size).drop (k + 1)).length) ≤ 2 ^ 56 := Nat.pow_le_pow_right (by omega) (by simp; omega)
  have h3 := l[at_ + k].toNat_lt
  rw [e, rdN]
  generalize rdN (((l.drop at_).take size).drop (k + 1)) = X at *
  rw [IntWalk.u64_in (256 * (X : Int)) (by omega), IntWalk.u64_in (l[at_ + k].toNat : Int) (by omega), IntWalk.u64_in _ (by omega)]
  push_cast
  omega

theorem rget_any (O S : Int) (at_ size : Nat) (hO : O = (at_ : Int)) (hS : S = (size : Int)) (v : Value) (l : List UInt8) (w : World) (hs : size = 1 ∨ size = 2 ∨ size = 4 ∨ size = 8) (hn : at_ + size ≤ l.length) (hl : l.length ≤ 1000000000) (h : RdB w v l) :
    Calls Tryz.prog 158 #[v, .int .i64 O, .int .i64 S] w fun e w' => e = .returned (.tuple #[.int .u64 (rdN ((l.drop at_).take size)), .int .i64 0]) ∧ w = w' := by
  subst hO hS
  obtain ⟨hle, A, c, g, off, rfl, hnc, hc, hA0, hA, hx⟩ := h
  have := hA (by omega)
  subst this
  have Hs : Hid (szd size = true) := (szd_iff _).2 (by omega)
  have hs8 : size ≤ 8 := by omega
  have hs1 : 1 ≤ size := by omega
  clear hs hle hA hA0
  go_enter Tryz.func158, Tryz.ntmps158
  go_wp2_with (go_at_call 191; refine (rsized_any _ _).mono ?_; rintro e w2 ⟨rfl, rfl⟩; rw [Hs.out])
  go_loop [8, 9] (fun X i => ∃ k : Nat, k ≤ size ∧ i = .int .i64 ((k : Int) - 1) ∧ X = .int .u64 (rdN (((l.drop at_).take size).drop k))) (fun _ i => (intOf i + 1).toNat)
  case atStart => exact ⟨size, by omega, rfl, by simp [rdN]⟩
  case round =>
    obtain ⟨k, hk, rfl, rfl⟩ := hrel
    rcases k with _ | k
    · go_wp2
      go_ret2
      exact ⟨by simp, rfl⟩
    · have hkl : at_ + k < l.length := by omega
      have hcell : w.cell? ⟨g, off + (at_ + k), none⟩ = some (.int .u8 l[at_ + k].toNat) := by rw [hx (at_ + k) (by omega)]; simp [u8v, hkl]
      clear hx
      go_wp2
      go_round
      case rel => exact ⟨k, by omega, by go_num, by rw [get_step l at_ size k hs8 hk hkl]⟩
      case measure => simp [intOf]

end Go.Proofs.YtkpmadahfmpeiaaGreat

/- Records of a journal: in memory, and as a sector's bytes. -/
namespace Go.Proofs.YtkpmadahfmpeiaaGreat
open Go.RowKit
set_option maxRecDepth 100000
set_option maxHeartbeats 400000

structure Rc where
  k : UInt32
  a : UInt32
  b : UInt32
def Rc.cells (r : Rc) : Array Value := #[.int .u32 r.k.toNat, .int .u32 r.a.toNat, .int .u32 r.b.toNat]
def rcL (l : List Rc) : List Value := l.flatMap fun r => r.cells.toList
def OwnR (w : World) (B : Nat) (v : Value) (l : List Rc) : Prop := Own w B 3 v l.length (rcL l)
def RdR (w : World) (v : Value) (l : List Rc) : Prop := Rd w 3 v l.length (rcL l)
theorem rcL_len (l : List Rc) : (rcL l).length = l.length * 3 := by
  induction l with
  | nil => rfl
  | cons r l ih =>
    have e : rcL (r :: l) = r.cells.toList ++ rcL l := rfl
    rw [e, List.length_append, ih]
    simp [Rc.cells]
    omega
theorem rcL_append (l m : List Rc) : rcL (l ++ m) = rcL l ++ rcL m := by simp [rcL]
theorem rcL_at (l : List Rc) {k j : Nat} (hk : k < l.length) (hj : j < 3) : (rcL l)[k * 3 + j]? = (l[k].cells)[j]? := by
  induction l generalizing k with
  | nil => simp at hk
  | cons r l ih =>
    have e : rcL (r :: l) = r.cells.toList ++ rcL l := rfl
    have hl : r.cells.toList.length = 3 := rfl
    cases k with
    | zero =>
      rw [e, List.getElem?_append_left (by omega)]
      simp
    | succ k =>
      rw [e, List.getElem?_append_right (by omega), hl, show (k + 1) * 3 + j - 3 = k * 3 + j from by omega]
      exact ih (by simpa using hk)
theorem rc_one (l : List Rc) : ∀ u ∈ rcL l, u.oneCell' = true := by
  intro u hu
  obtain ⟨r, _, h⟩ := List.mem_flatMap.1 hu
  simp [Rc.cells] at h
  rcases h with rfl | rfl | rfl <;> rfl
section
variable {w w' : World} {B : Nat} {v : Value} {l : List Rc}
theorem OwnR.rd (h : OwnR w B v l) : RdR w v l := Own.rd h
theorem OwnR.nil (w : World) (B : Nat) : OwnR w B (.slice none 0 0) [] := Own.nil _ _ _
theorem RdR.ext (h : RdR w v l) (hg : w.grownBy w' none) : RdR w' v l := Rd.ext h hg
theorem OwnR.ext (h : OwnR w B v l) (hg : w.grownBy w' none) : OwnR w' B v l := Own.ext h hg
theorem RdR.form (h : RdR w v l) : ∃ A c, v = .slice A l.length c := by obtain ⟨_, A, c, _, _, e, _⟩ := h; exact ⟨A, c, e⟩
theorem RdR.at_ {A : Option Addr} {c : Nat} (h : RdR w (.slice A l.length c) l) : ∃ g off, (0 < l.length → A = some ⟨g, off, none⟩) ∧ l.length ≤ c ∧ c ≤ maxLen ∧ ∀ k (hk : k < l.length), ∀ j, j < 3 → w.cell? ⟨g, off + k * 3 + j, none⟩ = (l[k].cells)[j]? := by
  obtain ⟨_, _, _, g, off, e, hn, hc, _, hA, hx⟩ := h
  cases e
  refine ⟨g, off, fun h0 => hA (by omega), hn, hc, fun k hk j hj => ?_⟩
  rw [Nat.add_assoc, hx _ (by omega), rcL_at l hk hj]
end
theorem ownR_app {w : World} {B : Nat} {v : Value} {l m : List Rc} (h : Own w B 3 v (l.length + m.length) (rcL l ++ rcL m)) : OwnR w B v (l ++ m) := by
  unfold OwnR; rw [List.length_append, rcL_append]; exact h
theorem Tryz.infoR : (Tryz.prog.info? 63).map (fun i => (i.zero, i.size, i.bytes)) = some (some (.agg #[.int .u32 0, .int .u32 0, .int .u32 0]), 3, 12) := by kernel_rfl
/-- append(v, x...) of records. -/
theorem wp_appR {ops : Array Oper} {rest : List Oper} {o : Oper} {a : Act} {Q : Exit → Act → World → Prop} {w : World} (hgd : o.guard = none) (s0 x0 : Operand)
    (ho : o.op = .call { callee := .builtin .append, args := #[s0, x0], argTypes := #[70, 70] }) {B : Nat} {v x : Value} {l m : List Rc} (hs : a.eval s0 = v) (hown : OwnR w B v l)
    (hx : a.eval x0 = x) (hr : RdR w x m) (hn : l.length + m.length ≤ 1000000000) (hB : B ≤ w.heap.size)
    (h : ∀ v' w', OwnR w' B v' (l ++ m) → w.grownBy w' v.ownBlock → (v'.ownBlock = v.ownBlock ∨ ∃ k, v'.ownBlock = some k ∧ w.heap.size ≤ k) → wpList Tryz.prog ops Q rest (a.put o.dst v') w') :
    wpList Tryz.prog ops Q (o :: rest) a w :=
  wp_app w hgd s0 x0 _ ho B 63 _ 3 12 Tryz.underlying70 Tryz.infoR rfl (by omega) v _ _ hs hown x _ _ hx hr (rc_one m) (by unfold maxLen; omega) (by omega) hB
    fun v' w' h1 h2 h3 => h v' w' (ownR_app h1) h2 h3
/-- append(v, x), x one record that was laid just ahead. -/
theorem wp_app1R {ops : Array Oper} {rest : List Oper} {o : Oper} {a : Act} {Q : Exit → Act → World → Prop} {w : World} (r : Rc) (C : Array Value) (hC : C = r.cells) (hgd : o.guard = none) (s0 x0 : Operand)
    (ho : o.op = .call { callee := .builtin .append, args := #[s0, x0], argTypes := #[70, 70] }) {B : Nat} {v : Value} {l : List Rc} (hs : a.eval s0 = v) (hown : OwnR w B v l)
    (g : Nat) (hx : a.eval x0 = .slice (some ⟨g, 0, none⟩) 1 1) (hg : g = w.heap.size) (hn : l.length ≤ 1000000000) (hB : B ≤ w.heap.size)
    (h : ∀ v' w', OwnR w' B v' (l ++ [r]) → w.grownBy w' v.ownBlock → (v'.ownBlock = v.ownBlock ∨ ∃ k, v'.ownBlock = some k ∧ w.heap.size ≤ k) → wpList Tryz.prog ops Q rest (a.put o.dst v') w') :
    wpList Tryz.prog ops Q (o :: rest) a (w.alloc (.cells C 63)) := by
  subst hC hg
  have he : rcL [r] = r.cells.toList := by simp [rcL]
  exact wp_app1 w r.cells hgd s0 x0 _ ho B 63 _ 3 12 Tryz.underlying70 Tryz.infoR rfl (by omega) v _ _ hs hown hx rfl (by rw [← he]; exact rc_one [r]) (by unfold maxLen; omega) (by omega) hB
    fun v' w' h1 h2 h3 => h v' w' (ownR_app (m := [r]) (by rw [he]; exact h1)) h2 h3

/-! as bytes -/
def secH (n : Nat) (r : Rc) : List UInt8 := le n 4 ++ le r.k.toNat 4 ++ le r.a.toNat 4 ++ le r.b.toNat 4 ++ List.replicate 44 0
def secB (n : Nat) (r : Rc) : List UInt8 := secH n r ++ le (crcS (secH n r)) 4
theorem secH_len (n : Nat) (r : Rc) : (secH n r).length = 60 := by simp [secH, length_le]
theorem secB_len (n : Nat) (r : Rc) : (secB n r).length = 64 := by simp [secB, secH_len, length_le]
def recOf (s : List UInt8) : Rc := ⟨UInt32.ofNat (rdN ((s.drop 4).take 4)), UInt32.ofNat (rdN ((s.drop 8).take 4)), UInt32.ofNat (rdN ((s.drop 12).take 4))⟩
/-- the records with which bytes begin, n of them read. -/
def readF : Nat → Nat → List UInt8 → List Rc
  | 0, _, _ => []
  | f + 1, n, b => if 64 ≤ b.length ∧ n < 65536 then (if (recOf (b.take 64)).k = 0 ∨ b.take 64 ≠ secB (n + 1) (recOf (b.take 64)) then [] else recOf (b.take 64) :: readF f (n + 1) (b.drop 64)) else []
def readJ (b : List UInt8) : List Rc := readF (b.length + 1) 0 b
end Go.Proofs.YtkpmadahfmpeiaaGreat
