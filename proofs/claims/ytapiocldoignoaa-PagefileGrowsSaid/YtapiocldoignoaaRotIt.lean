/-
  The iterator over rotten pages.
-/
import Derived.Test.YtapiocldoignoaaPf2
import Derived.RangeFuncNested
import Derived.RangeFuncBound
import Derived.RangeFuncCalls
import Derived.RangeFuncLeaves
import Derived.RangeFuncFrom
import Derived.Shelf.Abstract
import Derived.Shelf.AbstractIn
import Derived.Shelf.RegionOpen
import Derived.OwnWalkIn
import Derived.TacticsInMore
import Derived.LoopNIn
import Derived.LoopIn
namespace Go.Proofs.Ytapiocldoignoaa
open Go.RowKit Go.Shelf
set_option maxRecDepth 100000
set_option maxHeartbeats 400000
attribute [local go_sem] Oper.semAt_some

/-- all below n lies as it lay, but one block. -/
structure KeepBut (b n : Nat) (W W' : World) : Prop where
  os : W'.os = W.os
  tape : W'.tape = W.tape
  output : W'.output = W.output
  size : W.heap.size ≤ W'.heap.size
  block : ∀ i, i < n → i ≠ b → W'.heap[i]? = W.heap[i]?
section
variable {b n : Nat} {A B C : World}
theorem KeepBut.refl (b n : Nat) (W : World) : KeepBut b n W W := ⟨rfl, rfl, rfl, Nat.le_refl _, fun _ _ _ => rfl⟩
theorem KeepBut.trans (h : KeepBut b n A B) (k : KeepBut b n B C) : KeepBut b n A C :=
  ⟨k.os.trans h.os, k.tape.trans h.tape, k.output.trans h.output, Nat.le_trans h.size k.size, fun i hi hb => (k.block i hi hb).trans (h.block i hi hb)⟩
theorem KeepBut.of_gr {r : Option Nat} (h : A.grownBy B r) (hn : n ≤ A.heap.size) (hr : ∀ k, r = some k → k = b ∨ n ≤ k) : KeepBut b n A B :=
  ⟨h.os, h.tape, h.output, h.size, fun i hi hb => h.block i (by omega) (fun e => by rcases hr i e.symm with e | e; exact hb e; omega)⟩
theorem KeepBut.putObj (W : World) (l : Nat) (o : Obj) (hl : n ≤ l) (h : l < W.heap.size) : KeepBut b n W (W.putObj l o) :=
  KeepBut.of_gr (grownBy_putObj' W l o) (by omega) (fun k e => by cases e; exact .inr hl)
end
/-- is a page rotten? -/
def badB (S : Dk) (nm : List UInt8) (k : Nat) : Bool := decide ((S.pread nm k).2 ≠ 0)
def badL (S : Dk) (nm : List UInt8) (np : Nat) : List Nat := (List.range np).filter (badB S nm)
theorem badL_succ (S : Dk) (nm : List UInt8) (k : Nat) : badL S nm (k + 1) = badL S nm k ++ if badB S nm k = true then [k] else [] := by
  unfold badL
  rw [List.range_succ, List.filter_append]
  congr 1
  by_cases h : badB S nm k = true
  · rw [if_pos h]; simp [h]
  · rw [if_neg h]; simp [h]
theorem badL_len (S : Dk) (nm : List UInt8) (k : Nat) : (badL S nm k).length ≤ k := by
  unfold badL
  have := List.length_filter_le (badB S nm) (List.range k)
  simpa using this
section
variable {w0 : World} {B d pf : Nat} {o : Own1} {S : Dk} {c : Con} {nm : List UInt8}
/-- what the iterator finds again behind each round. -/
structure RotS (w0 W : World) (B n1 b9 bn bf d pf np : Nat) (o : Own1) (S : Dk) (c : Con) (nm : List UInt8) : Prop where
  keep : KeepBut b9 n1 w0 W
  di : DI w0 B o d S c
  pfr : PfR w0 B o d pf nm
  own : ∀ i, o i ≠ none → i < n1 ∧ i ≠ b9
  pfb : pf < n1 ∧ pf ≠ b9
  box : Blk w0 bn 3 #[.int .i64 np] ∧ Blk w0 bf 26 #[.pointer (some ⟨pf, 0, none⟩)]
  boxb : (bn < n1 ∧ bn ≠ b9) ∧ bf < n1 ∧ bf ≠ b9
  size : n1 ≤ w0.heap.size
theorem RotS.now {W : World} {n1 b9 bn bf np : Nat} (h : RotS w0 W B n1 b9 bn bf d pf np o S c nm) : DI W B o d S c ∧ PfR W B o d pf nm ∧ W.cell? ⟨bn, 0, none⟩ = some (.int .i64 np) ∧ W.cell? ⟨bf, 0, none⟩ = some (.pointer (some ⟨pf, 0, none⟩)) ∧ n1 ≤ W.heap.size := by
  refine ⟨h.di.keep h.keep.size fun i hi => h.keep.block i (h.own i hi).1 (h.own i hi).2, ⟨?_, h.pfr.free, h.pfr.pB⟩, ?_, ?_, Nat.le_trans h.size h.keep.size⟩
  · exact h.pfr.box.same (h.keep.block _ h.pfb.1 h.pfb.2)
  · exact (h.box.1.same (h.keep.block _ h.boxb.1.1 h.boxb.1.2)).cell 0
  · exact (h.box.2.same (h.keep.block _ h.boxb.2.1 h.boxb.2.2)).cell 0
theorem RotS.step {W W' : World} {n1 b9 bn bf np : Nat} (h : RotS w0 W B n1 b9 bn bf d pf np o S c nm) (hk : KeepBut b9 n1 W W') : RotS w0 W' B n1 b9 bn bf d pf np o S c nm :=
  { h with keep := h.keep.trans hk }
set_option maxHeartbeats 2000000 in
theorem rot1_in (n : Nat) (hn : 1 ≤ n) (l n1 b9 bn bf np : Nat) (hnp : np ≤ 65536) (hnm : nm.length ≤ 1000000000) (J Jx : List Nat → World → Prop)
    (hY : ∀ pre x W, J pre W → pre.length < np → YieldAt Fence.wide (n - 1) Try.prog l #[.int .i64 (x : Nat)] W fun e W' =>
      (e = .returned (.bool true) ∧ J (pre ++ [x]) W' ∧ KeepBut b9 n1 W W') ∨ (e = .returned (.bool false) ∧ Jx (pre ++ [x]) W'))
    (W : World) (hJ : AbidesFrom W.heap.size J) (hS : RotS w0 W B n1 b9 bn bf d pf np o S c nm) (h0 : J [] W) :
    CallsIn Fence.wide n Try.prog 51 #[.func (.yield l) #[] #[], .pointer (some ⟨bn, 0, none⟩), .pointer (some ⟨bf, 0, none⟩)] W fun e W' => (∃ v, e = .returned v) ∧
      ((∃ xs, xs = badL S nm np ∧ J xs W') ∨ (∃ pre, True ∧ Jx pre W')) := by
  have hc1 := hS.now.2.2.1
  have hc2 := hS.now.2.2.2.1
  refine callsIn_of_wp Try.func51 rfl trivial ?_ rfl
  simp only [Try.ntmps51, List.size_toArray, List.length_cons, List.length_nil, Nat.reduceAdd, Nat.reduceSub, Array.replicate_succ, Array.replicate_zero, List.push_toArray, List.append_toArray, List.nil_append, List.cons_append]
  gi_wp2
  gi_loopw [8, 4, 5, 6] (fun i _ _ _ wr => ∃ k : Nat, k ≤ np ∧ i = .int .i64 k ∧ RotS w0 wr B n1 b9 bn bf d pf np o S c nm ∧ J (badL S nm k) wr) (fun i _ _ _ _ => np - (intOf i).toNat)
  case atStart => exact ⟨0, by omega, rfl, hS, h0⟩
  case round =>
    obtain ⟨k, hk, rfl, hs, hj⟩ := hrel
    have hsn := badL_succ S nm k
    have hln := badL_len S nm k
    have HS := Lib.hid hs
    have HJ := Lib.hid hj
    have HSN := Lib.hid hsn
    clear hs hj hsn
    by_cases hlt : k < np
    · have hRD := pread_any HS.out.now.1 HS.out.now.2.1 hnm (k : Int) (by omega)
      have hcf := HS.out.now.2.2.2.1
      have HB : Hid (badB S nm k = decide ((S.pread nm k).2 ≠ 0)) := rfl
      have HRD := Lib.hid hRD
      clear hRD
      generalize S.pread nm k = R at *
      obtain ⟨rb, q⟩ := R
      by_cases hq : q = 0
      · subst hq
        have HE : Hid (badL S nm (k + 1) = badL S nm k) := by show _ = _; rw [HSN.out, HB.out]; simp
        gi_wp2_with (refine ⟨trivial, ?_⟩; gi_at_call 14; refine (callsIn_wide.2 HRD.out).mono ?_; rintro e w3 ⟨⟨v3, rfl, o3⟩, g3⟩; clear o3)
        all_goals
          refine ⟨fun _ h => (by cases h), ?_⟩
          have J3 := Lib.hid (hJ _ _ _ none HJ.out g3 (fun r e => by cases e))
          have S3 := Lib.hid (HS.out.step (KeepBut.of_gr g3 HS.out.now.2.2.2.2 (fun k e => by cases e)))
          clear g3
          gi_wp2
          go_roundw
          case rel => exact ⟨k + 1, by omega, by go_num, S3.out, by rw [HE.out]; exact J3.out⟩
          case measure => simp [intOf]; omega
      · have hb0 : ((q : Int) != 0) = true := by rw [bne_iff_ne]; omega
        have HE : Hid (badL S nm (k + 1) = badL S nm k ++ [k]) := by show _ = _; rw [HSN.out, HB.out]; simp [hq]
        have HYY : Hid (∀ w3, wr.grownBy w3 none → YieldAt Fence.wide (n - 1) Try.prog l #[.int .i64 (k : Nat)] w3 fun e W' =>
          (e = .returned (.bool true) ∧ J (badL S nm k ++ [k]) W' ∧ KeepBut b9 n1 w3 W') ∨ (e = .returned (.bool false) ∧ Jx (badL S nm k ++ [k]) W')) := fun w3 g3 => hY _ _ _ (hJ _ _ _ none HJ.out g3 (fun r e => by cases e)) (by omega)
        clear hq HB HSN
        gi_wp2_with (refine ⟨trivial, ?_⟩; gi_at_call 14; refine (callsIn_wide.2 HRD.out).mono ?_; rintro e w3 ⟨⟨v3, rfl, o3⟩, g3⟩; clear o3; obtain ⟨fn, tmps, assign, body, hy, hR⟩ := HYY.out _ g3)
        clear hy
        refine hR.mono ?_
        clear hR
        rintro e W4 (⟨rfl, hJ4, hk4⟩ | ⟨rfl, hJx4⟩)
        · have J4 := Lib.hid hJ4
          have S4 := Lib.hid ((HS.out.step (KeepBut.of_gr g3 HS.out.now.2.2.2.2 (fun k e => by cases e))).step hk4)
          clear g3 hk4 hJ4
          gi_wp2
          go_roundw
          case rel => exact ⟨k + 1, by omega, by go_num, S4.out, by rw [HE.out]; exact J4.out⟩
          case measure => simp [intOf]; omega
        · gi_wp2
          refine bodyPost_ret (results_none rfl _ _ _) rfl ?_
          exact ⟨⟨_, rfl⟩, .inr ⟨_, trivial, hJx4⟩⟩
    · have e1 : k = np := by omega
      subst e1
      gi_wp2
      go_end0
      exact ⟨⟨_, rfl⟩, .inl ⟨_, rfl, HJ.out⟩⟩
end
end Go.Proofs.Ytapiocldoignoaa
