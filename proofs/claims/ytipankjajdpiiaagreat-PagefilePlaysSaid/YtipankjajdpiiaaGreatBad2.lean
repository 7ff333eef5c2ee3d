/-
  The iterator over rotten pages.
-/
import Derived.Test.YtipankjajdpiiaaGreatLd
import Derived.RangeFuncNested
import Derived.RangeFuncBound
import Derived.RangeFuncCalls
import Derived.RangeFuncLeaves
import Derived.RangeFuncFrom
import Derived.Shelf.Abstract
import Derived.Shelf.AbstractIn
import Derived.Shelf.RegionOpen
import Derived.OwnWalkIn
import Derived.TacticsInMore
import Derived.LoopNIn
import Derived.LoopIn
import Derived.Maps.AppendAt
namespace Go.Proofs.YtipankjajdpiiaaGreat
open Go.RowKit Go.Shelf
set_option maxRecDepth 100000
set_option maxHeartbeats 400000
attribute [local go_sem] Oper.semAt_some

/-- all below n lies as it lay, but one block. -/
structure KeepBut (b n : Nat) (W W' : World) : Prop where
  os : W'.os = W.os
  tape : W'.tape = W.tape
  output : W'.output = W.output
  size : W.heap.size ≤ W'.heap.size
  block : ∀ i, i < n → i ≠ b → W'.heap[i]? = W.heap[i]?
section
variable {b n : Nat} {A B C : World}
theorem KeepBut.refl (b n : Nat) (W : World) : KeepBut b n W W := ⟨rfl, rfl, rfl, Nat.le_refl _, fun _ _ _ => rfl⟩
theorem KeepBut.trans (h : KeepBut b n A B) (k : KeepBut b n B C) : KeepBut b n A C :=
  ⟨k.os.trans h.os, k.tape.trans h.tape, k.output.trans h.output, Nat.le_trans h.size k.size, fun i hi hb => (k.block i hi hb).trans (h.block i hi hb)⟩
theorem KeepBut.of_gr {r : Option Nat} (h : A.grownBy B r) (hn : n ≤ A.heap.size) (hr : ∀ k, r = some k → k = b ∨ n ≤ k) : KeepBut b n A B :=
  ⟨h.os, h.tape, h.output, h.size, fun i hi hb => h.block i (by omega) (fun e => by rcases hr i e.symm with e | e; exact hb e; omega)⟩
theorem KeepBut.putObj (W : World) (l : Nat) (o : Obj) (hl : n ≤ l) (h : l < W.heap.size) : KeepBut b n W (W.putObj l o) :=
  KeepBut.of_gr (grownBy_putObj' W l o) (by omega) (fun k e => by cases e; exact .inr hl)
end
/-- is a page rotten? -/
def badB (S : Dk) (nm : List UInt8) (k : Nat) : Bool := decide ((S.pread nm k).2 ≠ 0)
def badL (S : Dk) (nm : List UInt8) (np : Nat) : List Nat := (List.range np).filter (badB S nm)
theorem badL_succ (S : Dk) (nm : List UInt8) (k : Nat) : badL S nm (k + 1) = badL S nm k ++ if badB S nm k = true then [k] else [] := by
  unfold badL
  rw [List.range_succ, List.filter_append]
  congr 1
  by_cases h : badB S nm k = true
  · rw [if_pos h]; simp [h]
  · rw [if_neg h]; simp [h]
theorem badL_len (S : Dk) (nm : List UInt8) (k : Nat) : (badL S nm k).length ≤ k := by
  unfold badL
  have := List.length_filter_le (badB S nm) (List.range k)
  simpa using this
section
variable {w0 : World} {B d pf : Nat} {o : Own1} {S : Dk} {c : Con} {nm : List UInt8}
/-- what the iterator finds again behind each round. -/
structure RotS (w0 W : World) (B n1 b9 bn bf d pf np : Nat) (o : Own1) (S : Dk) (c : Con) (nm : List UInt8) : Prop where
  keep : KeepBut b9 n1 w0 W
  di : DI w0 B o d S c
  pfr : PfR w0 B o d pf nm
  own : ∀ i, o i ≠ none → i < n1 ∧ i ≠ b9
  pfb : pf < n1 ∧ pf ≠ b9
  box : Blk w0 bn 3 #[.int .i64 np] ∧ Blk w0 bf 54 #[.pointer (some ⟨pf, 0, none⟩)]
  boxb : (bn < n1 ∧ bn ≠ b9) ∧ bf < n1 ∧ bf ≠ b9
  size : n1 ≤ w0.heap.size
theorem RotS.now {W : World} {n1 b9 bn bf np : Nat} (h : RotS w0 W B n1 b9 bn bf d pf np o S c nm) : DI W B o d S c ∧ PfR W B o d pf nm ∧ W.cell? ⟨bn, 0, none⟩ = some (.int .i64 np) ∧ W.cell? ⟨bf, 0, none⟩ = some (.pointer (some ⟨pf, 0, none⟩)) ∧ n1 ≤ W.heap.size := by
  refine ⟨h.di.keep h.keep.size fun i hi => h.keep.block i (h.own i hi).1 (h.own i hi).2, ⟨?_, h.pfr.free, h.pfr.pB⟩, ?_, ?_, Nat.le_trans h.size h.keep.size⟩
  · exact h.pfr.box.same (h.keep.block _ h.pfb.1 h.pfb.2)
  · exact (h.box.1.same (h.keep.block _ h.boxb.1.1 h.boxb.1.2)).cell 0
  · exact (h.box.2.same (h.keep.block _ h.boxb.2.1 h.boxb.2.2)).cell 0
theorem RotS.step {W W' : World} {n1 b9 bn bf np : Nat} (h : RotS w0 W B n1 b9 bn bf d pf np o S c nm) (hk : KeepBut b9 n1 W W') : RotS w0 W' B n1 b9 bn bf d pf np o S c nm :=
  { h with keep := h.keep.trans hk }
set_option maxHeartbeats 2000000 in
theorem rot1_in (n : Nat) (hn : 1 ≤ n) (l n1 b9 bn bf np : Nat) (hnp : np ≤ 65536) (hnm : nm.length ≤ 1000000000) (J Jx : List Nat → World → Prop)
    (hY : ∀ pre x W, J pre W → pre.length < np → YieldAt Fence.wide (n - 1) Tryz.prog l #[.int .i64 (x : Nat)] W fun e W' =>
      (e = .returned (.bool true) ∧ J (pre ++ [x]) W' ∧ KeepBut b9 n1 W W') ∨ (e = .returned (.bool false) ∧ Jx (pre ++ [x]) W'))
    (W : World) (hJ : AbidesFrom W.heap.size J) (hS : RotS w0 W B n1 b9 bn bf d pf np o S c nm) (h0 : J [] W) :
    CallsIn Fence.wide n Tryz.prog 123 #[.func (.yield l) #[] #[], .pointer (some ⟨bn, 0, none⟩), .pointer (some ⟨bf, 0, none⟩)] W fun e W' => (∃ v, e = .returned v) ∧
      ((∃ xs, xs = badL S nm np ∧ J xs W') ∨ (∃ pre, True ∧ Jx pre W')) := by
  have hc1 := hS.now.2.2.1
  have hc2 := hS.now.2.2.2.1
  refine callsIn_of_wp Tryz.func123 rfl trivial ?_ rfl
  simp only [Tryz.ntmps123, List.size_toArray, List.length_cons, List.length_nil, Nat.reduceAdd, Nat.reduceSub, Array.replicate_succ, Array.replicate_zero, List.push_toArray, List.append_toArray, List.nil_append, List.cons_append]
  gi_wp2
  gi_loopw [8, 4, 5, 6] (fun i _ _ _ wr => ∃ k : Nat, k ≤ np ∧ i = .int .i64 k ∧ RotS w0 wr B n1 b9 bn bf d pf np o S c nm ∧ J (badL S nm k) wr) (fun i _ _ _ _ => np - (intOf i).toNat)
  case atStart => exact ⟨0, by omega, rfl, hS, h0⟩
  case round =>
    obtain ⟨k, hk, rfl, hs, hj⟩ := hrel
    have hsn := badL_succ S nm k
    have hln := badL_len S nm k
    have HS := Lib.hid hs
    have HJ := Lib.hid hj
    have HSN := Lib.hid hsn
    clear hs hj hsn
    by_cases hlt : k < np
    · have hRD := pread_any HS.out.now.1 HS.out.now.2.1 hnm (k : Int) (by omega)
      have hcf := HS.out.now.2.2.2.1
      have HB : Hid (badB S nm k = decide ((S.pread nm k).2 ≠ 0)) := rfl
      have HRD := Lib.hid hRD
      clear hRD
      generalize S.pread nm k = R at *
      obtain ⟨rb, q⟩ := R
      by_cases hq : q = 0
      · subst hq
        have HE : Hid (badL S nm (k + 1) = badL S nm k) := by show _ = _; rw [HSN.out, HB.out]; simp
        gi_wp2_with (refine ⟨trivial, ?_⟩; gi_at_call 46; refine (callsIn_wide.2 HRD.out).mono ?_; rintro e w3 ⟨⟨v3, rfl, o3⟩, g3⟩; clear o3)
        all_goals
          refine ⟨fun _ h => (by cases h), ?_⟩
          have J3 := Lib.hid (hJ _ _ _ none HJ.out g3 (fun r e => by cases e))
          have S3 := Lib.hid (HS.out.step (KeepBut.of_gr g3 HS.out.now.2.2.2.2 (fun k e => by cases e)))
          clear g3
          gi_wp2
          go_roundw
          case rel => exact ⟨k + 1, by omega, by go_num, S3.out, by rw [HE.out]; exact J3.out⟩
          case measure => simp [intOf]; omega
      · have hb0 : ((q : Int) != 0) = true := by rw [bne_iff_ne]; omega
        have HE : Hid (badL S nm (k + 1) = badL S nm k ++ [k]) := by show _ = _; rw [HSN.out, HB.out]; simp [hq]
        have HYY : Hid (∀ w3, wr.grownBy w3 none → YieldAt Fence.wide (n - 1) Tryz.prog l #[.int .i64 (k : Nat)] w3 fun e W' =>
          (e = .returned (.bool true) ∧ J (badL S nm k ++ [k]) W' ∧ KeepBut b9 n1 w3 W') ∨ (e = .returned (.bool false) ∧ Jx (badL S nm k ++ [k]) W')) := fun w3 g3 => hY _ _ _ (hJ _ _ _ none HJ.out g3 (fun r e => by cases e)) (by omega)
        clear hq HB HSN
        gi_wp2_with (refine ⟨trivial, ?_⟩; gi_at_call 46; refine (callsIn_wide.2 HRD.out).mono ?_; rintro e w3 ⟨⟨v3, rfl, o3⟩, g3⟩; clear o3; obtain ⟨fn, tmps, assign, body, hy, hR⟩ := HYY.out _ g3)
        clear hy
        refine hR.mono ?_
        clear hR
        rintro e W4 (⟨rfl, hJ4, hk4⟩ | ⟨rfl, hJx4⟩)
        · have J4 := Lib.hid hJ4
          have S4 := Lib.hid ((HS.out.step (KeepBut.of_gr g3 HS.out.now.2.2.2.2 (fun k e => by cases e))).step hk4)
          clear g3 hk4 hJ4
          gi_wp2
          go_roundw
          case rel => exact ⟨k + 1, by omega, by go_num, S4.out, by rw [HE.out]; exact J4.out⟩
          case measure => simp [intOf]; omega
        · gi_wp2
          refine bodyPost_ret (results_none rfl _ _ _) rfl ?_
          exact ⟨⟨_, rfl⟩, .inr ⟨_, trivial, hJx4⟩⟩
    · have e1 : k = np := by omega
      subst e1
      gi_wp2
      go_end0
      exact ⟨⟨_, rfl⟩, .inl ⟨_, rfl, HJ.out⟩⟩
end
end Go.Proofs.YtipankjajdpiiaaGreat

/- pagefile.Open and Bad, on a file of whole pages. -/
namespace Go.Proofs.YtipankjajdpiiaaGreat
open Go.RowKit Go.Shelf
set_option maxRecDepth 100000
set_option maxHeartbeats 400000
attribute [local go_sem] Oper.semAt_some

def natL (xs : List Nat) : List Value := xs.map fun (k : Nat) => Value.int .i64 (k : Int)
theorem natL_snoc (xs : List Nat) (k : Nat) : natL (xs ++ [k]) = natL xs ++ [.int .i64 (k : Int)] := by simp [natL]
theorem Tryz.infoI : (Tryz.prog.info? 3).map (fun i => (i.zero, i.size, i.bytes)) = some (some (.int .i64 0), 1, 8) := by kernel_rfl
theorem ownsRow_down {W : World} {b b' : Nat} {e : TypeId} {s : Nat} {v : Value} {k : Nat} {xs : List Value} (h : W.ownsRow b e s v k xs) (hb : b' ≤ b) : W.ownsRow b' e s v k xs := by
  refine ⟨h.1, ?_⟩
  rcases h.2 with h2 | ⟨g, cap, cur, r1, r2, r3⟩
  · exact .inl h2
  · exact .inr ⟨g, cap, cur, r1, Nat.le_trans hb r2, r3⟩
theorem ownsRow_base {W : World} {b : Nat} {e : TypeId} {s : Nat} {v : Value} {k : Nat} {xs : List Value} (h : W.ownsRow b e s v k xs) : ∀ g, v.ownBlock = some g → b ≤ g := by
  intro g hg
  rcases h.2 with ⟨rfl, _⟩ | ⟨g', cap, cur, rfl, hb, _⟩
  · simp [Value.ownBlock] at hg
  · obtain rfl : g' = g := by simpa [Value.ownBlock] using hg
    exact hb
theorem boxed_app {W w1 : World} {n0 n1 B : Nat} {t e : TypeId} {size : Nat} {v v' : Value} {k m : Nat} {xs ys : List Value} {tmp : Obj}
    (hv : Boxed W B t v) (hte : t ≠ e) (hrow : W.ownsRow n1 e size v k xs) (hn1 : n1 ≤ W.heap.size) (hn0 : n0 ≤ B) (hB : B < n1)
    (hown' : w1.ownsRow n1 e size v' m ys) (hgrow : (W.alloc tmp).grownBy w1 v.ownBlock) :
    Boxed w1 B t v ∧ Boxed (w1.setCell ⟨B, 0, none⟩ v') B t v' ∧ (w1.setCell ⟨B, 0, none⟩ v').ownsRow n1 e size v' m ys ∧ KeepsOthers W (w1.setCell ⟨B, 0, none⟩ v') ∧ Below n0 W (w1.setCell ⟨B, 0, none⟩ v') ∧ KeepBut B n1 W (w1.setCell ⟨B, 0, none⟩ v') := by
  obtain ⟨h1, h2, _, h4, h5⟩ := hv.appended hte (ownsRow_down hrow (show n0 ≤ n1 by omega)) (by omega) hn0 (ownsRow_down hown' (show n0 ≤ n1 by omega)) hgrow
  refine ⟨h1, h2, hown'.kept (grownBy_setCell' w1 B v') (.inr (h1.not_row hte hown').symm), h4, h5, ?_⟩
  have k1 : KeepBut B n1 W (W.alloc tmp) := KeepBut.of_gr (gr_alloc W tmp none) hn1 (fun k e => by cases e)
  have k2 : KeepBut B n1 (W.alloc tmp) w1 := KeepBut.of_gr hgrow (by simp; omega) (fun k e => .inr (ownsRow_base hrow k e))
  have k3 : KeepBut B n1 w1 (w1.setCell ⟨B, 0, none⟩ v') := KeepBut.of_gr (grownBy_setCell' w1 B v') (by have := hgrow.size; simp at this; omega) (fun k e => by cases e; exact .inl rfl)
  exact (k1.trans k2).trans k3
section
variable {w : World} {B d : Nat} {o : Own1} {S : Dk} {c : Con} {nm : List UInt8}
theorem popen_ok (h : DI w B o d S c) (hn : nm.length ≤ 1000000000) {np : Nat} (hs : S.size nm = (256 * np, 0)) :
    Calls Tryz.prog 49 #[.pointer (some ⟨d, 0, none⟩), .string ⟨nm.toArray⟩] w fun e w' => ∃ pf, e = .returned (.tuple #[.pointer (some ⟨pf, 0, none⟩), .int .i64 0]) ∧ w.heap.size ≤ pf ∧ PfR w' w.heap.size o d pf nm ∧ w.grownBy w' none := by
  have hz := (size_le h nm).1
  rw [hs] at hz
  have hSZ := size_any h nm hn
  rw [hs] at hSZ
  have HS : Hid (Calls Tryz.prog 64 #[.pointer (some ⟨d, 0, none⟩), .string ⟨nm.toArray⟩] w fun e w' => e = .returned (.tuple #[.int .i64 (256 * (np : Int)), .int .i64 0]) ∧ w.grownBy w' none) := by
    show Calls _ _ _ _ _
    have e : ((256 * np : Nat) : Int) = 256 * (np : Int) := by push_cast; rfl
    simp only [e] at hSZ
    exact hSZ
  have HM := Lib.hid (made_any d nm hn)
  have HF : Hid (∀ i, w.heap.size ≤ i → o i = none) := fun i hi => by
    cases e : o i with
    | none => rfl
    | some t => exact absurd (h.inb i (by rw [e]; simp)).2 (by omega)
  clear h hSZ hs
  have hz2 : (256 * (np : Int)) % 256 = 0 := by omega
  have hz3 : (0 : Int) ≤ 256 * (np : Int) := by omega
  have hz4 : 256 * (np : Int) ≤ 16777216 := by simp at hz; omega
  have hz5 : ((256 * (np : Int)) % 256 != 0) = false := by rw [bne_eq_false_iff_eq]; exact hz2
  clear hz hz2
  go_enter Tryz.func49, Tryz.ntmps49
  go_wp2_with fail
  refine HS.out.mono ?_
  rintro e w1 ⟨rfl, g1⟩
  have G1 := Lib.hid g1
  clear g1
  go_wp2_with fail
  refine (HM.out _).mono ?_
  rintro e w2 ⟨pf, rfl, hpf, hb, g2⟩
  have HB := Lib.hid hb
  have G2 := Lib.hid g2
  have hpf2 : w.heap.size ≤ pf := Nat.le_trans G1.out.size hpf
  clear hb g2
  go_wp2
  go_ret2
  exact ⟨pf, rfl, hpf2, ⟨HB.out, HF.out pf hpf2, hpf2⟩, gr_none G1.out G2.out⟩
theorem rotten_any (pf : Nat) (np : Nat) (w : World) :
    Calls Tryz.prog 95 #[.pointer (some ⟨pf, 0, none⟩), .int .i64 np] w fun e w' => e = .returned (.func (.func 123) #[] #[.pointer (some ⟨w.heap.size + 1, 0, none⟩), .pointer (some ⟨w.heap.size, 0, none⟩)]) ∧
      w' = (w.alloc (.cells #[.pointer (some ⟨pf, 0, none⟩)] 54)).alloc (.cells #[.int .i64 np] 3) := by
  go_enter Tryz.func95, Tryz.ntmps95
  go_wp2
  go_ret
  exact ⟨rfl, rfl⟩
end
end Go.Proofs.YtipankjajdpiiaaGreat

/- pagefile.Bad, on a file of whole pages. -/
namespace Go.Proofs.YtipankjajdpiiaaGreat
open Go.RowKit Go.Shelf
set_option maxRecDepth 100000
set_option maxHeartbeats 400000
attribute [local go_sem] Oper.semAt_some

section
variable {w : World} {B d : Nat} {o : Own1} {S : Dk} {c : Con} {nm : List UInt8}
theorem rot_stops {w0 : World} {n1 b9 bn bf pf np : Nat} (n : Nat) (hn : 1 ≤ n) (hnp : np ≤ 65536) (hnm : nm.length ≤ 1000000000) (hS : RotS w0 w0 B n1 b9 bn bf d pf np o S c nm) :
    SeqStopsK Fence.wide n Tryz.prog 123 #[.pointer (some ⟨bn, 0, none⟩), .pointer (some ⟨bf, 0, none⟩)] (fun x : Nat => #[Value.int .i64 (x : Int)]) (KeepBut b9 n1) (fun xs => xs = badL S nm np) (fun _ => True) np w0 := fun l J Jx W hW hJ _ hY h0 =>
  rot1_in n hn l n1 b9 bn bf np hnp hnm J Jx hY W hJ (hS.step ⟨hW.os, hW.tape, hW.output, hW.size, fun i hi _ => hW.block i (Nat.lt_of_lt_of_le hi hS.size)⟩) h0
set_option maxHeartbeats 4000000 in
theorem bad_own (h : DI w B o d S c) (hn : nm.length ≤ 1000000000) {np : Nat} (hs : S.size nm = (256 * np, 0)) :
    Calls Tryz.prog 51 #[.pointer (some ⟨d, 0, none⟩), .string ⟨nm.toArray⟩] w fun e w' => (∃ v, e = .returned (.tuple #[v, .int .i64 0]) ∧ Own w' w.heap.size 1 v (badL S nm np).length (natL (badL S nm np))) ∧ w.grownBy w' none := by
  have hz := (size_le h nm).1
  rw [hs] at hz
  have hnp : np ≤ 65536 := by simp at hz; omega
  have HO := Lib.hid (popen_ok h hn hs)
  have HPG : Hid (∀ (wx : World) (pf : Nat), w.grownBy wx none → PfR wx w.heap.size o d pf nm → Calls Tryz.prog 47 #[.pointer (some ⟨pf, 0, none⟩)] wx fun e w' => e = .returned (.tuple #[.int .i64 np, .int .i64 0]) ∧ wx.grownBy w' none) := fun wx pf hg hp => by
    have := pages_any (h.ext hg) ⟨hp.box, hp.free, Nat.le_trans (by have := h.inb d (by rw [h.tD]; simp); omega) hp.pB⟩ hn
    have e : S.ppages nm = (np, 0) := by unfold Dk.ppages; rw [hs]; simp
    rw [e] at this
    exact this
  have H := Lib.hid h
  clear h hs hz
  refine (callsIn_wide (n := 5)).1 ?_
  refine callsIn_of_wp_marks Tryz.func51 rfl trivial ?_ rfl
  simp only [Tryz.ntmps51, List.size_toArray, List.length_cons, List.length_nil, Nat.reduceAdd, Nat.reduceSub, Array.replicate_succ, Array.replicate_zero, List.push_toArray, List.append_toArray, List.nil_append, List.cons_append]
  gi_wp2_with (refine ⟨trivial, ?_⟩; gi_at_call 49; refine (callsIn_wide.2 HO.out).mono ?_; rintro e w1 ⟨pf, rfl, hpf, hp, g1⟩; have G1 := Lib.hid g1; have HP := Lib.hid hp; have HPF := Lib.hid hpf; clear hpf hp g1)
  gi_wp2_with (refine ⟨trivial, ?_⟩; gi_at_call 47; refine (callsIn_wide.2 (HPG.out _ _ G1.out HP.out)).mono ?_; rintro e w2 ⟨rfl, g2⟩; have G2 := Lib.hid (gr_none G1.out g2); have HP2 := Lib.hid (HP.out.ext g2); clear g2)
  gi_wp2_with (refine ⟨trivial, ?_⟩; gi_at_call 95; refine (callsIn_wide.2 (rotten_any _ _ _)).mono ?_; rintro e w3 ⟨rfl, rfl⟩)
  obtain ⟨b9, hb9⟩ : ∃ b9, b9 = w2.heap.size := ⟨_, rfl⟩
  obtain ⟨W0, hW0⟩ : ∃ W0, W0 = (((w2.alloc (.cells #[.slice none 0 0] 39)).alloc (.cells #[.pointer (some ⟨pf, 0, none⟩)] 54)).alloc (.cells #[.int .i64 (np : Int)] 3)) := ⟨_, rfl⟩
  have gW0 : w2.grownBy W0 none := by rw [hW0]; exact gr_none (gr_none (gr_alloc _ _ none) (gr_alloc _ _ none)) (gr_alloc _ _ none)
  have hsz : W0.heap.size = b9 + 3 := by rw [hW0, hb9]; simp
  have hbx : Boxed W0 b9 39 (.slice none 0 0) := by rw [hW0, hb9]; exact ((Boxed.new w2 _ _).alloc _).alloc _
  have hbf : Blk W0 (b9 + 1) 54 #[.pointer (some ⟨pf, 0, none⟩)] := by
    have := (Blk.new (w2.alloc (.cells #[.slice none 0 0] 39)) 54 #[.pointer (some ⟨pf, 0, none⟩)]).ext (gr_alloc _ (.cells #[.int .i64 (np : Int)] 3) none)
    rw [hW0, hb9]; simpa using this
  have hbn : Blk W0 (b9 + 1 + 1) 3 #[.int .i64 (np : Int)] := by
    have := Blk.new ((w2.alloc (.cells #[.slice none 0 0] 39)).alloc (.cells #[.pointer (some ⟨pf, 0, none⟩)] 54)) 3 #[.int .i64 (np : Int)]
    rw [hW0, hb9]; simpa using this
  have hwb : w.heap.size ≤ b9 := by rw [hb9]; exact G2.out.size
  have hpb : pf < b9 := by rw [hb9]; exact HP2.out.box.lt
  have hBw : B ≤ w.heap.size := by have := H.out.inb d (by rw [H.out.tD]; simp); omega
  have hS : RotS W0 W0 B (b9 + 3) b9 (b9 + 1 + 1) (b9 + 1) d pf np o S c nm :=
    { keep := KeepBut.refl _ _ _
      di := H.out.ext (gr_none G2.out gW0)
      pfr := ⟨(HP2.out.ext gW0).box, HP2.out.free, by have := HPF.out; omega⟩
      own := fun i hi => by have := (H.out.inb i hi).2; omega
      pfb := by omega
      box := ⟨hbn, hbf⟩
      boxb := by omega
      size := by omega }
  have hB0 : Below w.heap.size w W0 := gr_below0 (gr_none G2.out gW0)
  obtain ⟨i0, hi, hz0, hz1, hz2⟩ := info_parts Tryz.infoI
  rw [← hW0, ← hb9]
  have HS := Lib.hid hS
  clear hS hW0 hb9 gW0 hbf hbn
  refine wpIn_rangeFunc_ownF rfl (by omega) (gf := 123) (lb := #[.pointer (some ⟨b9 + 1 + 1, 0, none⟩), .pointer (some ⟨b9 + 1, 0, none⟩)]) rfl trivial (enters_of Tryz.func123 (by kernel_rfl) rfl)
    (rot_stops 4 (by omega) hnp hn HS.out) (fun h k => h.trans k) (fun W l o o' hl h _ _ => KeepBut.putObj W l o' (by omega) (Array.getElem?_eq_some_iff.1 h).1) (Below.refl _ _) (fun _ => rfl)
    (fun pre W => (∃ v, Boxed W b9 39 v ∧ W.ownsRow (b9 + 3) 3 1 v pre.length (natL pre) ∧ True) ∧ Below w.heap.size w W ∧ b9 + 3 ≤ W.heap.size)
    (fun _ _ _ => False)
    (OwnFrom.and (Own.from (holdsRow_own (b9 + 3) b9 39 3 1 List.length natL (fun _ _ => True)) _) (OwnFrom.and (ownFrom_below (Nat.le_refl _) (by omega)) (fun s W W' row hs hg _ => Nat.le_trans hs hg.size)))
    (fun _ _ _ _ _ hs _ _ => hs)
    ⟨⟨_, hbx, World.ownsRow_nil _ _ _ _, trivial⟩, hB0, by omega⟩
    (fun x => { tmps := #[.pointer (some ⟨d, 0, none⟩), .string ⟨nm.toArray⟩, undef, undef, .slice none 0 0, .int .i64 0, .pointer (some ⟨pf, 0, none⟩), .int .i64 0, .int .i64 np, .pointer (some ⟨b9, 0, none⟩), .int .i64 (x : Int), .tuple #[.pointer (some ⟨pf, 0, none⟩), .int .i64 0], .pointer (some ⟨d, 0, none⟩), .string ⟨nm.toArray⟩, .tuple #[.pointer (some ⟨pf, 0, none⟩), .int .i64 0], .pointer (some ⟨pf, 0, none⟩), .int .i64 0, .int .i64 0, .bool false, undef, .tuple #[.int .i64 np, .int .i64 0], .pointer (some ⟨pf, 0, none⟩), .tuple #[.int .i64 np, .int .i64 0], .int .i64 np, .int .i64 0, .int .i64 0, .bool false, undef, .pointer (some ⟨pf, 0, none⟩), .int .i64 np, .func (.func 123) #[] #[.pointer (some ⟨b9 + 1 + 1, 0, none⟩), .pointer (some ⟨b9 + 1, 0, none⟩)], .int .i64 (x : Int), undef, undef, undef, undef, undef], defers := [] }) ?assign ?body ?done ?stop
  case assign =>
    intro l x W K hK
    gi_wp2
    exact hK
  case body =>
    rintro l pre x W ⟨⟨v, hv, hrow, _⟩, hB, hs3⟩ hlen
    have hcb := hv.cell
    have hfb := hv.frozen
    gi_wp2_with (gi_at_builtin; refine wpListIn_append_own _ rfl _ _ 39 rfl (b9 + 3) 3 i0 (.int .i64 0) 1 8 Tryz.underlying39 hi hz0 hz1 hz2 rfl (by decide) _ _ _ rfl (hrow.alloc _) ⟨W.heap.size, 0, none⟩ 1 1 [.int .i64 (x : Int)] rfl rfl (cell_one_new _ _ _) (by simp [Value.oneCell']) (by unfold maxLen; omega) (by omega) (by simp; omega) ?_; intro v' w1 hown' hgrow _; obtain ⟨g', cap', rfl⟩ := ownsRow_succ hown'; obtain ⟨hv1, hv2, hr2, hk2, hb2, hkb⟩ := boxed_app (n0 := w.heap.size) hv (by decide) hrow hs3 hwb (by omega) hown' hgrow; have hc1 := hv1.cell; have hf1 := hv1.frozen)
    exact ⟨hk2, hkb, ⟨_, hv2, by rw [natL_snoc, List.length_append]; exact hr2, trivial⟩, hB.trans hb2, Nat.le_trans hs3 hk2.size⟩
  case done =>
    rintro D ys W hD rfl ⟨⟨v, hv, hrow, _⟩, hB, hs3⟩ hK
    have hcb := hv.cell
    gi_wp2
    refine ⟨by simp, .inl ⟨_, _, rfl, run_takeDeferred hK, ?_⟩⟩
    exact ⟨_, results_tmp2 rfl _ _ _, ⟨v, rfl, Own.mono (Own.of_row (ownsRow_putObj hrow _ hK rfl)) (by omega)⟩, gr_of_below (hB.trans (belowK_b (w := w) (Nat.le_refl _) W D _ _ (by omega) hK rfl rfl))⟩
  case stop =>
    rintro D c pre W _ _ h _
    exact h.elim
theorem bad_any (h : DI w B o d S c) (hn : nm.length ≤ 1000000000) {np : Nat} (hs : S.size nm = (256 * np, 0)) :
    Calls Tryz.prog 51 #[.pointer (some ⟨d, 0, none⟩), .string ⟨nm.toArray⟩] w fun e w' => (∃ v, e = .returned (.tuple #[v, .int .i64 0]) ∧ Rd w' 1 v (badL S nm np).length (natL (badL S nm np))) ∧ w.grownBy w' none :=
  (bad_own h hn hs).mono fun _ _ ⟨⟨v, e, k⟩, g⟩ => ⟨⟨v, e, k.rd⟩, g⟩
end
end Go.Proofs.YtipankjajdpiiaaGreat
