/-
  crc: the table, sums, and the reference's.
-/
import Derived.Test.YtkfokgjpeaibpaaGreatPgP
import Derived.Test.YtkfokgjpeaibpaaGreatMem
import Derived.Laws.Tables
import Derived.Laws.Rows
import Derived.Test.YtkfokgjpeaibpaaGreatOct
namespace Go.Proofs.YtkfokgjpeaibpaaGreat
open Go.RowKit
set_option maxRecDepth 100000
set_option maxHeartbeats 400000

theorem u32_xor_nat (a b : Nat) (ha : a < 4294967296) (hb : b < 4294967296) : bits .xor .u32 (a : Int) (b : Int) = ((a ^^^ b : Nat) : Int) := by
  have h := xor_lt (n := 32) ha hb
  have h1 : a % 2 ^ 32 = a := Nat.mod_eq_of_lt ha
  have h2 : b % 2 ^ 32 = b := Nat.mod_eq_of_lt hb
  show IntKind.u32.wrap (((BitVec.ofInt 32 (a : Int) ^^^ BitVec.ofInt 32 (b : Int)).toNat : Nat) : Int) = _
  rw [BitVec.toNat_xor, BitVec.ofInt_natCast, BitVec.ofInt_natCast, BitVec.toNat_ofNat, BitVec.toNat_ofNat, h1, h2, IntWalk.u32_in _ (by omega)]
theorem u8_xor_nat (a b : Nat) (ha : a < 256) (hb : b < 256) : bits .xor .u8 (a : Int) (b : Int) = ((a ^^^ b : Nat) : Int) := by
  have h := xor_lt (n := 8) ha hb
  have h1 : a % 2 ^ 8 = a := Nat.mod_eq_of_lt ha
  have h2 : b % 2 ^ 8 = b := Nat.mod_eq_of_lt hb
  show IntKind.u8.wrap (((BitVec.ofInt 8 (a : Int) ^^^ BitVec.ofInt 8 (b : Int)).toNat : Nat) : Int) = _
  rw [BitVec.toNat_xor, BitVec.ofInt_natCast, BitVec.ofInt_natCast, BitVec.toNat_ofNat, BitVec.toNat_ofNat, h1, h2, IntWalk.u8_in _ (by omega)]
theorem u32_and_one (a : Nat) (ha : a < 4294967296) : bits .and .u32 (a : Int) 1 = ((a % 2 : Nat) : Int) := by
  have h1 : a % 2 ^ 32 = a := Nat.mod_eq_of_lt ha
  show IntKind.u32.wrap (((BitVec.ofInt 32 (a : Int) &&& BitVec.ofInt 32 ((1 : Nat) : Int)).toNat : Nat) : Int) = _
  rw [BitVec.toNat_and, BitVec.ofInt_natCast, BitVec.ofInt_natCast, BitVec.toNat_ofNat, BitVec.toNat_ofNat, h1, show 1 % 2 ^ 32 = 1 from rfl, Nat.and_one_is_mod, IntWalk.u32_in _ (by omega)]
/-- one step, as the code has it. -/
theorem step_u32 {x : Nat} (hx : x < 4294967296) : bits .xor .u32 ((x : Int) / 2) (2197175160 * bits .and .u32 (x : Int) 1 % 4294967296) = ((stp x : Nat) : Int) := by
  rw [u32_and_one x hx]
  have e1 : (x : Int) / 2 = ((x / 2 : Nat) : Int) := by omega
  have e2 : (2197175160 : Int) * ((x % 2 : Nat) : Int) % 4294967296 = ((poly * (x % 2) : Nat) : Int) := by
    have : x % 2 = 0 ∨ x % 2 = 1 := by omega
    unfold poly
    rcases this with e | e <;> rw [e] <;> rfl
  rw [e1, e2, u32_xor_nat _ _ (by omega) (by unfold poly; omega)]
  rfl
def tblA (k : Nat) : Array Value := ((List.range 256).map fun j => Value.int .u32 (if j < k then stpN 8 j else 0 : Nat)).toArray
theorem tbl_zero : Tryz.zeroCells184 = tblA 0 := by kernel_rfl
theorem tbl_size (k : Nat) : (tblA k).size = 256 := by simp [tblA]
theorem tbl_set (k : Nat) : (tblA k).setIfInBounds k (.int .u32 (stpN 8 k)) = tblA (k + 1) := by
  apply Array.ext
  · simp [tblA]
  · intro i h1 h2
    simp only [tblA, List.setIfInBounds_toArray, List.getElem_toArray, List.getElem_set, List.getElem_map, List.getElem_range]
    by_cases e : k = i
    · subst e; simp
    · rw [if_neg e]
      have : (i < k) = (i < k + 1) := by apply propext; omega
      simp only [this]
theorem tbl_at {j : Nat} (hj : j < 256) : (tblA 256)[j]? = some (.int .u32 (stpN 8 j)) := by
  simp [tblA, hj]
theorem tbl_one (k : Nat) : (tblA k).all (·.oneCell') = true := by
  rw [Array.all_eq_true]
  intro i hi
  simp [tblA]
  rfl
theorem Tryz.infoT : (Tryz.prog.info? 184).map (·.size) = some 256 := by kernel_rfl
/-- a whole row is stored. -/
theorem wp_store_tbl {ops : Array Oper} {rest : List Oper} {o : Oper} {a : Act} {w : World} {Q : Exit → Act → World → Prop} (hgd : o.guard = none) (x y : Operand) (ho : o.op = .store 184 x y)
    {g : Nat} (hx : a.eval x = .pointer (some ⟨g, 0, none⟩)) (hy : a.eval y = .agg (tblA 256)) (old : Array Value) (hg : Blk w g 184 old) (hold : old.size = 256)
    (h : ∀ w', Blk w' g 184 (tblA 256) → w.grownBy w' (some g) → wpList Tryz.prog ops Q rest (a.put o.dst undef) w') : wpList Tryz.prog ops Q (o :: rest) a w :=
  wpList_store_row hgd _ x y ho g (tblA 256) hx hy _ old hg (by rw [tbl_size]; exact Tryz.infoT) (by rw [tbl_size]; exact hold) (tbl_one _)
    (h _ (setRow_heap w g _ _ _ _ hg) ⟨rfl, rfl, rfl, by simp [World.setRow], fun k _ hk => setRow_other w g k _ (fun e => hk (by rw [e]))⟩)
theorem table_any (w : World) : Calls Tryz.prog 136 #[] w fun e w' => e = .returned (.agg (tblA 256)) ∧ w.grownBy w' none := by
  go_enter Tryz.func136, Tryz.ntmps136
  go_wp2
  go_loopw [1, 2, 3] (fun _ _ i wr => ∃ k : Nat, k ≤ 256 ∧ i = .int .i64 k ∧ Blk wr w.heap.size 184 (tblA k) ∧ w.grownBy wr none) (fun _ _ i _ => 256 - (intOf i).toNat)
  case atStart => exact ⟨0, by omega, rfl, by rw [← tbl_zero]; exact Blk.new w _ _, gr_alloc _ _ none⟩
  case round =>
    obtain ⟨k, hk, rfl, hb, hg⟩ := hrel
    by_cases hlt : k < 256
    · go_wp2
      go_loop [2, 8] (fun x i => ∃ j : Nat, j ≤ 8 ∧ i = .int .i64 j ∧ x = .int .u32 (stpN j k)) (fun _ i => 8 - (intOf i).toNat)
      case atStart => exact ⟨0, by omega, rfl, by simp [stpN]⟩
      case round =>
        obtain ⟨j, hj, rfl, rfl⟩ := hrel
        by_cases hlj : j < 8
        · have hx := stpN_lt j (show k < 2 ^ 32 by omega)
          have hs := step_u32 hx
          rw [← stpN_succ] at hs
          have HS := Lib.hid hs
          clear hs
          generalize hxx : stpN j k = x at *
          clear hxx
          go_wp2
          go_round
          case rel => exact ⟨j + 1, by omega, by go_num, by rw [HS.out]⟩
          case measure => simp [intOf]; omega
        · obtain rfl : j = 8 := by omega
          have hc : ∃ u, wr.cell? ⟨w.heap.size, k, none⟩ = some u := ⟨_, by rw [hb.cell, Array.getElem?_eq_getElem (by rw [tbl_size]; exact hlt)]⟩
          obtain ⟨u, hcu⟩ := hc
          have hf := hb.frozen k
          have hb2 := hb.set k (.int .u32 (stpN 8 k))
          rw [tbl_set] at hb2
          have HB2 := Lib.hid hb2
          have HG := Lib.hid hg
          generalize hxx : stpN 8 k = x at *
          clear hxx hb2 hb hg
          go_wp2
          go_roundw
          case rel => exact ⟨k + 1, by omega, by go_num, HB2.out, gr_set_new HG.out _ _ (Nat.le_refl _)⟩
          case measure => simp [intOf]; omega
    · obtain rfl : k = 256 := by omega
      have HG := Lib.hid hg
      have HB := Lib.hid hb
      clear hg hb
      go_wp2_with (first
        | (refine wpList_load_row rfl _ (.tmp 0) rfl w.heap.size rfl _ (tblA 256) (0, 0) _ HB.out Tryz.underlying184 rfl (by rw [tbl_size]; exact Tryz.infoT) ?_)
        | (refine wp_store_tbl rfl (.tmp 0) (.tmp 21) rfl rfl rfl (tblA 256) HB.out (tbl_size _) ?_; intro w2 hb2 g2))
      refine bodyPost_ret (v := .agg (tblA 256)) (results_cell_row rfl _ _ w.heap.size _ (tblA 256) (0, 0) _ rfl hb2 Tryz.underlying184 rfl (by rw [tbl_size]; exact Tryz.infoT)) rfl ⟨rfl, gr_trans HG.out g2 (.inr fun k e => by cases e; exact Nat.le_refl _)⟩
theorem max_xor {x : Nat} (hx : x < 2 ^ 32) : 4294967295 ^^^ x = 4294967295 - x := by
  apply Nat.eq_of_testBit_eq
  intro i
  rw [Nat.testBit_xor, show (4294967295 : Nat) = 2 ^ 32 - 1 from rfl, Nat.testBit_two_pow_sub_one, show 2 ^ 32 - 1 - x = 2 ^ 32 - (x + 1) from by omega, Nat.testBit_two_pow_sub_succ hx]
  by_cases h : i < 32
  · simp [h]
  · have : x.testBit i = false := Nat.testBit_lt_two_pow (Nat.lt_of_lt_of_le hx (Nat.pow_le_pow_right (by omega) (by omega)))
    simp [h, this]
theorem not_u32 {x : Nat} (hx : x < 4294967296) : bits .xor .u32 IntKind.u32.max (x : Int) = ((4294967295 - x : Nat) : Int) := by
  have e : IntKind.u32.max = ((4294967295 : Nat) : Int) := rfl
  rw [e, u32_xor_nat _ _ (by omega) hx, max_xor hx]
theorem not_u32' {x : Nat} (hx : x < 4294967296) : bits .xor .u32 (x : Int) 4294967295 = ((4294967295 - x : Nat) : Int) := by
  have e : (4294967295 : Int) = ((4294967295 : Nat) : Int) := rfl
  rw [e, u32_xor_nat _ _ hx (by omega), Nat.xor_comm, max_xor hx]
/-- one byte, by the table. -/
theorem tab_u32 {x b : Nat} (hx : x < 4294967296) (hb : b < 256) : bits .xor .u32 ((x : Int) / 256) ((stpN 8 (x % 256 ^^^ b) : Nat) : Int) = ((crc1 x b : Nat) : Int) := by
  have h1 := stpN_lt 8 (x := x % 256 ^^^ b) (xor_lt (by omega) (by omega))
  have e : (x : Int) / 256 = ((x / 256 : Nat) : Int) := by omega
  rw [e, u32_xor_nat _ _ (by omega) h1, crc1_table x b hb]
theorem extend_any (s : Nat) (hs : s < 4294967296) (v : Value) (l : List UInt8) (w : World) (h : RdB w v l) (hl : l.length ≤ 1000000000) :
    Calls Tryz.prog 128 #[.int .u32 s, v] w fun e w' => e = .returned (.int .u32 (crcE s l)) ∧ w.grownBy w' none := by
  obtain ⟨A, c, rfl⟩ := h.form
  have H := Lib.hid h
  clear h
  go_enter Tryz.func128, Tryz.ntmps128
  go_wp2_with fail
  refine (table_any _).mono ?_
  rintro e w1 ⟨rfl, g1⟩
  have hb1 := Blk.new w1 184 Tryz.zeroCells184
  have HB1 := Lib.hid hb1
  clear hb1
  have hsg : IntKind.u32.signed = false := rfl
  have hno := not_u32 hs
  go_wp2_with (refine wp_store_tbl rfl (.tmp 5) (.tmp 8) rfl rfl rfl _ HB1.out (by rw [tbl_zero]; exact tbl_size _) ?_; intro w2 hb2 g2)
  have hr2 : RdB w2 (.slice A l.length c) l := H.out.ext (gr_trans (gr_none g1 (gr_alloc _ _ none)) g2 (.inr fun k e => by cases e; exact g1.size))
  have G2 : Hid (w.grownBy w2 none) := gr_trans (gr_none g1 (gr_alloc _ _ none)) g2 (.inr fun k e => by cases e; exact g1.size)
  obtain ⟨_, A', c', g, off, e, hnc, _, _, hA, hx⟩ := hr2
  cases e
  have HA := Lib.hid hA
  have HX := Lib.hid hx
  have HB2 := Lib.hid hb2
  clear hno hA hx hb2 g2 g1 HB1
  go_loop [6, 7, 13] (fun x _ i => ∃ k : Nat, k ≤ l.length ∧ i = .int .i64 k ∧ x = .int .u32 (crcL (4294967295 - s) (l.take k))) (fun _ _ i => l.length - (intOf i).toNat)
  case atStart => exact ⟨0, by omega, rfl, by simp [crcL]⟩
  case round =>
    obtain ⟨k, hk, rfl, rfl⟩ := hrel
    have hcl := crcL_lt (show 4294967295 - s < 2 ^ 32 by omega) (l.take k)
    by_cases hlt : k < l.length
    · obtain rfl := HA.out (by omega)
      have hcell : w2.cell? ⟨g, off + k, none⟩ = some (.int .u8 l[k].toNat) := by rw [HX.out k (by omega)]; simp [u8v, hlt]
      have hsn : crcL (4294967295 - s) (l.take (k + 1)) = crc1 (crcL (4294967295 - s) (l.take k)) l[k].toNat := by rw [take_snoc hlt, crcL_snoc]
      have HSN := Lib.hid hsn
      have hb := l[k].toNat_lt
      clear hsn
      generalize hxx : crcL (4294967295 - s) (l.take k) = x at *
      clear hxx
      generalize l[k].toNat = b at *
      obtain ⟨j, hj⟩ : ∃ j, j = x % 256 ^^^ b := ⟨_, rfl⟩
      have hjl : j < 256 := by rw [hj]; exact xor_lt (n := 8) (by omega) (by omega)
      have hidx : bits .xor .u8 ((x : Int) % 256) (b : Int) = (j : Int) := by
        have e : (x : Int) % 256 = ((x % 256 : Nat) : Int) := by omega
        rw [e, u8_xor_nat _ _ (by omega) hb, hj]
      have htc : w2.cell? ⟨w1.heap.size, j, none⟩ = some (.int .u32 (stpN 8 j)) := by rw [HB2.out.cell, tbl_at hjl]
      have hres := tab_u32 hcl hb
      rw [← hj] at hres
      have hst := stpN_lt 8 (x := j) (by omega)
      generalize stpN 8 j = tj at *
      clear hj
      go_wp2
      go_round
      case rel => exact ⟨k + 1, by omega, by go_num, by rw [HSN.out]⟩
      case measure => simp [intOf]; omega
    · obtain rfl : k = l.length := by omega
      rw [List.take_length]
      rw [List.take_length] at hcl
      have hno := not_u32 hcl
      have HE : Hid (((4294967295 - crcL (4294967295 - s) l : Nat) : Int) = (crcE s l : Nat)) := rfl
      go_wp2
      go_ret
      exact ⟨by rw [← HE.out]; rfl, G2.out⟩
theorem sum_any (v : Value) (l : List UInt8) (w : World) (h : RdB w v l) (hl : l.length ≤ 1000000000) :
    Calls Tryz.prog 103 #[v] w fun e w' => e = .returned (.int .u32 (crcS l)) ∧ w.grownBy w' none := by
  have H := Lib.hid (extend_any 0 (by omega) v l w h hl)
  go_enter Tryz.func103, Tryz.ntmps103
  go_wp2_with (go_at_call 128; refine H.out.mono ?_; rintro e w1 ⟨rfl, g1⟩)
  go_ret
  exact ⟨rfl, g1⟩
/-! the reference -/
theorem stp_cases (x : Nat) : stp x = if x % 2 = 1 then x / 2 ^^^ poly else x / 2 := by
  unfold stp
  by_cases h : x % 2 = 1
  · rw [if_pos h, h, Nat.mul_one]
  · rw [if_neg h, show x % 2 = 0 from by omega, Nat.mul_zero, Nat.xor_zero]
end Go.Proofs.YtkfokgjpeaibpaaGreat

/- The references' numbers and bytes: packages milepostref00, milepostref01. -/
namespace Go.Proofs.YtkfokgjpeaibpaaGreat
open Go.RowKit
set_option maxRecDepth 100000
set_option maxHeartbeats 400000

theorem copyBytes_any (v : Value) (l : List UInt8) (w : World) (h : RdB w v l) (hn : l.length ≤ 1000000000) :
    Calls Tryz.prog 35 #[v] w fun e w' => ∃ v', e = .returned v' ∧ OwnB w' w.heap.size v' l ∧ w.grownBy w' none := by
  obtain ⟨A, c, rfl⟩ := h.form
  rcases l with _ | ⟨b, l⟩
  · clear h
    go_enter Tryz.func35, Tryz.ntmps35
    go_wp2
    go_ret
    exact ⟨_, rfl, OwnB.nil _ _, gr_refl _ _⟩
  · have hs := run_str h
    generalize hl : b :: l = L at *
    have h0 : ((L.length : Int) == 0) = false := by subst hl; simp; omega
    clear h hl
    go_enter Tryz.func35, Tryz.ntmps35
    go_wp2_with (refine wp_bytes rfl (.tmp 7) rfl L rfl (by unfold maxLen; omega) ?_; rintro v' w' h1 g1 -)
    go_ret
    exact ⟨_, rfl, h1, g1⟩

theorem eqBytes_any (v v' : Value) (l l' : List UInt8) (w : World) (h : RdB w v l) (h' : RdB w v' l') :
    Calls Tryz.prog 15 #[v, v'] w fun e w' => e = .returned (.bool (l == l')) ∧ w = w' := by
  obtain ⟨A, c, rfl⟩ := h.form
  obtain ⟨A', c', rfl⟩ := h'.form
  have hs := run_str h
  have hs' := run_str h'
  clear h h'
  by_cases hl : l.length = l'.length
  · have hb : ((l.length : Int) == (l'.length : Int)) = true := by rw [beq_iff_eq]; omega
    have Hl := Lib.hid hl
    clear hl
    go_enter Tryz.func15, Tryz.ntmps15
    go_wp2
    go_ret
    exact ⟨rfl, rfl⟩
  · have hb : ((l.length : Int) == (l'.length : Int)) = false := by rw [beq_eq_false_iff_ne]; omega
    have Hl : Hid ((l == l') = false) := by
      have : (l == l') = false := by rw [beq_eq_false_iff_ne]; exact fun e => hl (by rw [e])
      exact this
    clear hl
    go_enter Tryz.func15, Tryz.ntmps15
    go_wp2
    go_ret
    exact ⟨by rw [Hl.out]; rfl, rfl⟩

theorem byteAt_tmod (x k : Nat) : ((x : Int) / 2 ^ (8 * k)).tmod 256 % 256 = ((byteAt x k).toNat : Int) := by
  have e : (x : Int) / 2 ^ (8 * k) = ((x / 2 ^ (8 * k) : Nat) : Int) := by simp
  rw [← byteAt_val, e, Int.tmod_eq_emod_of_nonneg (Int.natCast_nonneg _), ← e, Int.emod_emod]
theorem div_step (x k : Nat) (hx : x / 2 ^ (8 * k) ≤ 18446744073709551615) : IntKind.u64.wrap (((x : Int) / 2 ^ (8 * k)).tdiv 256) = ((x / 2 ^ (8 * (k + 1)) : Nat) : Int) := by
  have e : (x : Int) / 2 ^ (8 * k) = ((x / 2 ^ (8 * k) : Nat) : Int) := by simp
  rw [e]
  generalize hy : x / 2 ^ (8 * k) = y at *
  rw [IntWalk.u64_quo _ _ (by omega), show 8 * (k + 1) = 8 * k + 8 from by omega, Nat.pow_add, ← Nat.div_div_eq_div_mul, hy]
  omega
theorem get_step (l : List UInt8) (at_ size k : Nat) (hs : size ≤ 8) (hk : k + 1 ≤ size) (hl : at_ + k < l.length) :
    IntKind.u64.wrap (IntKind.u64.wrap (256 * (rdN (((l.drop at_).take size).drop (k + 1)) : Int)) + IntKind.u64.wrap (l[at_ + k].toNat : Int)) = (rdN (((l.drop at_).take size).drop k) : Int) := by
  have hlen : k < ((l.drop at_).take size).length := by simp; omega
  have e : ((l.drop at_).take size).drop k = l[at_ + k] :: ((l.drop at_).take size).drop (k + 1) := by
    rw [List.drop_eq_getElem_cons hlen, List.getElem_take, List.getElem_drop]
  have h1 := rdN_lt (((l.drop at_).take size).drop (k + 1))
  have h2 : 2 ^ (8 * (((l.drop at_).take size).drop (k + 1)).length) ≤ 2 ^ 56 := Nat.pow_le_pow_right (by omega) (by simp; omega)
  have h3 := l[at_ + k].toNat_lt
  rw [e, rdN]
  generalize rdN (((l.drop at_).take size).drop (k + 1)) = X at *
  rw [IntWalk.u64_in (256 * (X : Int)) (by omega), IntWalk.u64_in (l[at_ + k].toNat : Int) (by omega), IntWalk.u64_in _ (by omega)]
  push_cast
  omega

end Go.Proofs.YtkfokgjpeaibpaaGreat

/- Records of a journal: in memory, and as a sector's bytes. -/
namespace Go.Proofs.YtkfokgjpeaibpaaGreat
open Go.RowKit
set_option maxRecDepth 100000
set_option maxHeartbeats 400000

structure Rc where
  k : UInt32
  a : UInt32
  b : UInt32
def Rc.cells (r : Rc) : Array Value := #[.int .u32 r.k.toNat, .int .u32 r.a.toNat, .int .u32 r.b.toNat]
def rcL (l : List Rc) : List Value := l.flatMap fun r => r.cells.toList
def OwnR (w : World) (B : Nat) (v : Value) (l : List Rc) : Prop := Own w B 3 v l.length (rcL l)
def RdR (w : World) (v : Value) (l : List Rc) : Prop := Rd w 3 v l.length (rcL l)
theorem rcL_len (l : List Rc) : (rcL l).length = l.length * 3 := by
  induction l with
  | nil => rfl
  | cons r l ih =>
    have e : rcL (r :: l) = r.cells.toList ++ rcL l := rfl
    rw [e, List.length_append, ih]
    simp [Rc.cells]
    omega
theorem rcL_append (l m : List Rc) : rcL (l ++ m) = rcL l ++ rcL m := by simp [rcL]
theorem rcL_at (l : List Rc) {k j : Nat} (hk : k < l.length) (hj : j < 3) : (rcL l)[k * 3 + j]? = (l[k].cells)[j]? := by
  induction l generalizing k with
  | nil => simp at hk
  | cons r l ih =>
    have e : rcL (r :: l) = r.cells.toList ++ rcL l := rfl
    have hl : r.cells.toList.length = 3 := rfl
    cases k with
    | zero =>
      rw [e, List.getElem?_append_left (by omega)]
      simp
    | succ k =>
      rw [e, List.getElem?_append_right (by omega), hl, show (k + 1) * 3 + j - 3 = k * 3 + j from by omega]
      exact ih (by simpa using hk)
theorem rc_one (l : List Rc) : ∀ u ∈ rcL l, u.oneCell' = true := by
  intro u hu
  obtain ⟨r, _, h⟩ := List.mem_flatMap.1 hu
  simp [Rc.cells] at h
  rcases h with rfl | rfl | rfl <;> rfl
section
variable {w w' : World} {B : Nat} {v : Value} {l : List Rc}
theorem OwnR.rd (h : OwnR w B v l) : RdR w v l := Own.rd h
theorem OwnR.nil (w : World) (B : Nat) : OwnR w B (.slice none 0 0) [] := Own.nil _ _ _
theorem RdR.ext (h : RdR w v l) (hg : w.grownBy w' none) : RdR w' v l := Rd.ext h hg
theorem OwnR.ext (h : OwnR w B v l) (hg : w.grownBy w' none) : OwnR w' B v l := Own.ext h hg
theorem RdR.form (h : RdR w v l) : ∃ A c, v = .slice A l.length c := by obtain ⟨_, A, c, _, _, e, _⟩ := h; exact ⟨A, c, e⟩
theorem RdR.at_ {A : Option Addr} {c : Nat} (h : RdR w (.slice A l.length c) l) : ∃ g off, (0 < l.length → A = some ⟨g, off, none⟩) ∧ l.length ≤ c ∧ c ≤ maxLen ∧ ∀ k (hk : k < l.length), ∀ j, j < 3 → w.cell? ⟨g, off + k * 3 + j, none⟩ = (l[k].cells)[j]? := by
  obtain ⟨_, _, _, g, off, e, hn, hc, _, hA, hx⟩ := h
  cases e
  refine ⟨g, off, fun h0 => hA (by omega), hn, hc, fun k hk j hj => ?_⟩
  rw [Nat.add_assoc, hx _ (by omega), rcL_at l hk hj]
end
theorem ownR_app {w : World} {B : Nat} {v : Value} {l m : List Rc} (h : Own w B 3 v (l.length + m.length) (rcL l ++ rcL m)) : OwnR w B v (l ++ m) := by
  unfold OwnR; rw [List.length_append, rcL_append]; exact h
/-! as bytes -/
def secH (n : Nat) (r : Rc) : List UInt8 := le n 4 ++ le r.k.toNat 4 ++ le r.a.toNat 4 ++ le r.b.toNat 4 ++ List.replicate 44 0
def secB (n : Nat) (r : Rc) : List UInt8 := secH n r ++ le (crcS (secH n r)) 4
theorem secH_len (n : Nat) (r : Rc) : (secH n r).length = 60 := by simp [secH, length_le]
theorem secB_len (n : Nat) (r : Rc) : (secB n r).length = 64 := by simp [secB, secH_len, length_le]
def recOf (s : List UInt8) : Rc := ⟨UInt32.ofNat (rdN ((s.drop 4).take 4)), UInt32.ofNat (rdN ((s.drop 8).take 4)), UInt32.ofNat (rdN ((s.drop 12).take 4))⟩
/-- the records with which bytes begin, n of them read. -/
def readF : Nat → Nat → List UInt8 → List Rc
  | 0, _, _ => []
  | f + 1, n, b => if 64 ≤ b.length ∧ n < 65536 then (if (recOf (b.take 64)).k = 0 ∨ b.take 64 ≠ secB (n + 1) (recOf (b.take 64)) then [] else recOf (b.take 64) :: readF f (n + 1) (b.drop 64)) else []
def readJ (b : List UInt8) : List Rc := readF (b.length + 1) 0 b
end Go.Proofs.YtkfokgjpeaibpaaGreat

/- journal: field, sector, and slices.Equal of bytes. -/
namespace Go.Proofs.YtkfokgjpeaibpaaGreat
open Go.RowKit
set_option maxRecDepth 100000
set_option maxHeartbeats 400000

theorem rd4_lt (l : List UInt8) (i : Nat) : rdN ((l.drop i).take 4) < 4294967296 := rdN_take_lt (l.drop i) 4
def fieldsB (m : List UInt32) : List UInt8 := m.flatMap fun x => le x.toNat 4
theorem fieldsB_len (m : List UInt32) : (fieldsB m).length = 4 * m.length := by
  induction m with
  | nil => rfl
  | cons x m ih =>
    have e : fieldsB (x :: m) = le x.toNat 4 ++ fieldsB m := rfl
    rw [e, List.length_append, ih, length_le, List.length_cons]
    omega
theorem fieldsB_snoc {m : List UInt32} {k : Nat} (hk : k < m.length) : fieldsB (m.take (k + 1)) = fieldsB (m.take k) ++ le m[k].toNat 4 := by
  unfold fieldsB
  rw [List.take_succ_eq_append_getElem hk, List.flatMap_append]
  congr 1
/-- append of noughts, at the operation. -/
theorem wp_appZ {ops : Array Oper} {rest : List Oper} {q : Oper} {a : Act} {Q : Exit → Act → World → Prop} {w : World} (hgd : q.guard = none) (s0 x0 : Operand)
    (ho : q.op = .call { callee := .builtin .append, args := #[s0, x0], argTypes := #[33, 3] }) {B : Nat} {v : Value} {l : List UInt8} (hs : a.eval s0 = v) (hown : OwnB w B v l) {M : Int} (m : Nat) (hM : M = (m : Int)) (hx : a.eval x0 = .int .i64 M)
    (hn : l.length + m ≤ 70000000000000) (hB : B ≤ w.heap.size)
    (h : ∀ v' w', OwnB w' B v' (l ++ List.replicate m 0) → Ext0 w w' v v' → wpList Tryz.prog ops Q rest (a.put q.dst v') w') : wpList Tryz.prog ops Q (q :: rest) a w := by
  refine wpList_plain hgd fun K hK => ?_
  subst hM
  obtain ⟨v', w', hrun, h1, h2⟩ := run_appZ w q.type B v l hown m hn hB
  unfold Oper.wp execOp
  simp only [ho, resolve, invoke, builtin, Sem.run_bind, Sem.run_pure, Result.andThen_ok, List.map_toArray, List.map_cons, List.map_nil, hs, hx, hrun]
  exact hK _ _ (h v' w' h1 h2)
theorem ext0_gr {W w w' : World} {v u : Value} {B : Nat} {l : List UInt8} (hg : W.grownBy w none) (h : Ext0 w w' v u) (ho : OwnB w B v l) (hB : W.heap.size ≤ B) : W.grownBy w' none := by
  obtain ⟨r, g, hr, _⟩ := h
  exact gr_trans hg g (.inr fun k e => Nat.le_trans hB (Own.blk_lt ho (by omega) (hr k e)).1)
end Go.Proofs.YtkfokgjpeaibpaaGreat
