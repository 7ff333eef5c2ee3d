/-
  Hub: Add, up to the sorting.
-/
import Derived.Test.YtfgkmimhibpceaaHe
namespace Go.Proofs.Ytfgkmimhibpceaa
open Go.RowKit
set_option maxRecDepth 100000
set_option maxHeartbeats 400000

/-- what slices.SortedFunc makes of a map's labels. -/
def SvP : Prop := ∀ (wx : World) (b m n : Nat) (best : UInt32 → Option Lb), PutS wx b m n best → AtHub best → n ≤ 1000000 →
  Calls Try.prog 32 #[.func (.func 46) #[] #[.pointer (some ⟨b, 0, none⟩)], .func (.func 34) #[] #[]] wx fun e w' =>
    ∃ u l, e = .returned u ∧ OwnL w' wx.heap.size u l ∧ BestL best l ∧ l.length ≤ n ∧ wx.grownBy w' none
theorem values_any {w : World} {bp m n : Nat} {best : UInt32 → Option Lb} (h : PutS w bp m n best) : Calls Try.prog 33 #[.map (some m)] w fun e w' =>
    ∃ b, e = .returned (.func (.func 46) #[] #[.pointer (some ⟨b, 0, none⟩)]) ∧ PutS w' b m n best ∧ w.grownBy w' none := by
  have HP := Lib.hid h
  clear h
  go_enter Try.func33, Try.ntmps33
  go_wp2
  go_ret
  exact ⟨_, rfl, ⟨Blk.new _ _ _, HP.out.vm.ext (gr_alloc _ _ _)⟩, gr_alloc _ _ _⟩
theorem eqf_nil (w : World) : (binOp .eql 33 .nilFunc .nilFunc).run Try.prog w = .ok (.bool true) w := by rfl
theorem eqf_fn (f : FuncId) (a b : Array Value) (w : World) : (binOp .eql 33 (.func (.func f) a b) .nilFunc).run Try.prog w = .ok (.bool false) w := by rfl
theorem put0 (w : World) : PutS ((w.alloc (.map #[] 0)).alloc (.cells #[.map (some w.heap.size)] 55)) (w.heap.size + 1) w.heap.size 0 (fun _ => none) :=
  ⟨by have := Blk.new (w.alloc (.map #[] 0)) 55 #[.map (some w.heap.size)]; rwa [World.size_alloc] at this, (VM.made jU w).ext (gr_alloc _ _ none)⟩
set_option maxHeartbeats 4000000 in
theorem add_nil (hsv : SvP) (v : UInt32) (ev : Value) (up : List Ed) (w : World) (h : RdE w ev up) (hn : up.length ≤ 1000000000) :
    Calls Try.prog 14 #[.int .u32 v.toNat, ev, .nilFunc] w fun e w' => ∃ u l, e = .returned u ∧ OwnL w' w.heap.size u l ∧ BestL (firstB v) l ∧ l.length ≤ 2 ∧ w.grownBy w' none := by
  obtain ⟨A, c, rfl⟩ := h.form
  obtain ⟨g, off, hA, _, hcells⟩ := h.at_ ed4
  have HA := Lib.hid hA
  have HC := Lib.hid hcells
  have HS := Lib.hid hsv
  have HP := Lib.hid fun (wx : World) (bp m : Nat) (hp : PutS wx bp m 0 (fun _ => none)) => put_any hp (by omega) ⟨v, v, 0⟩
  have hmm := @run_makeMap Try.prog
  clear hA hcells h hsv
  go_enter Try.func14, Try.ntmps14
  go_wp2_with fail
  refine (HP.out _ _ _ (put0 w)).mono ?_
  rintro e w1 ⟨rfl, hp1, g1⟩
  have HP1 := Lib.hid hp1
  have G1 : Hid (w.grownBy w1 none) := gr_trans (gr_none (gr_alloc w _ none) (gr_alloc _ _ none)) g1 (.inr fun k e => by cases e; exact Nat.le_refl _)
  have hcb : w1.cell? ⟨w.heap.size + 1, 0, none⟩ = some (.map (some w.heap.size)) := hp1.box.cell 0
  clear hp1 g1
  go_wp2_with fail
  go_loopw [24] (fun i wr => i = .int .i64 0 ∧ Hid (PutS wr (w.heap.size + 1) w.heap.size 1 (firstB v)) ∧ w.grownBy wr none) (fun _ _ => 0)
  case atStart => exact ⟨rfl, HP1, G1.out⟩
  case round =>
    obtain ⟨rfl, hp, hg⟩ := hrel
    have hcb : wr.cell? ⟨w.heap.size + 1, 0, none⟩ = some (.map (some w.heap.size)) := hp.out.box.cell 0
    by_cases h0 : 0 < up.length
    · have := HA.out h0
      subst this
      rcases hx : up[0] with ⟨ea, eb, ec, ed⟩
      obtain ⟨c0, c1, c2, c3⟩ := at4E HC.out hg h0 hx
      rw [Nat.zero_mul, Nat.add_zero] at c0 c1 c2 c3
      have hnil := eqf_nil
      have hcb2 : (wr.alloc (.cells #[.int .u32 ea.toNat, .int .u32 eb.toNat, .int .u64 ec.toNat, .int .u32 ed.toNat] 49)).cell? ⟨w.heap.size + 1, 0, none⟩ = some (.map (some w.heap.size)) := (gr_alloc _ _ none).cell hcb (by simp)
      have HP2 := Lib.hid (hp.out.ext (gr_alloc wr (.cells #[.int .u32 ea.toNat, .int .u32 eb.toNat, .int .u64 ec.toNat, .int .u32 ed.toNat] 49) none))
      have G2 := Lib.hid (gr_none hg (gr_alloc wr (.cells #[.int .u32 ea.toNat, .int .u32 eb.toNat, .int .u64 ec.toNat, .int .u32 ed.toNat] 49) none))
      clear hx HC hp hg
      go_wp2_with (first
        | (go_at_call 33; refine (values_any HP2.out).mono ?_; rintro e w3 ⟨b, rfl, hp3, g3⟩; have HP3 := Lib.hid hp3; have G3 := Lib.hid (gr_none G2.out g3); clear hp3 g3)
        | (go_at_call 32; refine (HS.out _ _ _ _ _ HP3.out (AtHub.first v) (by omega)).mono ?_; rintro e w4 ⟨u, l, rfl, o4, hb4, hl4, g4⟩))
      go_ret
      exact ⟨_, _, rfl, o4.mono G3.out.size, hb4, by omega, gr_none G3.out g4⟩
    · have h1 : up.length = 0 := by omega
      rw [h1]
      have HP2 := hp
      have G2 := Lib.hid hg
      clear hp hg
      go_wp2_with (first
        | (go_at_call 33; refine (values_any HP2.out).mono ?_; rintro e w3 ⟨b, rfl, hp3, g3⟩; have HP3 := Lib.hid hp3; have G3 := Lib.hid (gr_none G2.out g3); clear hp3 g3)
        | (go_at_call 32; refine (HS.out _ _ _ _ _ HP3.out (AtHub.first v) (by omega)).mono ?_; rintro e w4 ⟨u, l, rfl, o4, hb4, hl4, g4⟩))
      go_ret
      exact ⟨_, _, rfl, o4.mono G3.out.size, hb4, by omega, gr_none G3.out g4⟩
theorem at3Lr {w wx : World} {g off m : Nat} {l : List Lb} (hc : ∀ k (hk : k < l.length), ∀ j, j < 3 → w.cell? ⟨g, off + k * 3 + j, none⟩ = (l[k].enc)[j]?) (hg : w.grownBy wx (some m)) (hm : m ≠ g) {k : Nat} (hk : k < l.length) {a b : UInt32} {c : UInt64} (e : l[k] = ⟨a, b, c⟩) :
    wx.cell? ⟨g, off + k * 3, none⟩ = some (.int .u32 a.toNat) ∧ wx.cell? ⟨g, off + k * 3 + 1, none⟩ = some (.int .u32 b.toNat) ∧ wx.cell? ⟨g, off + k * 3 + 2, none⟩ = some (.int .u64 c.toNat) := by
  have h0 := hc k hk 0 (by omega)
  have h1 := hc k hk 1 (by omega)
  have h2 := hc k hk 2 (by omega)
  rw [e] at h0 h1 h2
  exact ⟨hg.cell h0 (by simpa using fun e => hm e.symm), hg.cell h1 (by simpa using fun e => hm e.symm), hg.cell h2 (by simpa using fun e => hm e.symm)⟩
theorem u64_ofNat (n : Nat) (h : n < 18446744073709551616) : (UInt64.ofNat n).toNat = n := by
  rw [UInt64.toNat_ofNat_of_lt' (by show n < 18446744073709551616; exact h)]
theorem candB_put {e : Ed} {best : UInt32 → Option Lb} {x : Lb} (h : e.w.toNat + x.dist.toNat < 9223372036854775808) : candB e best x = putB best ⟨x.hub, e.h, UInt64.ofNat (e.w.toNat + x.dist.toNat)⟩ := by unfold candB; rw [if_pos h]
theorem candB_no {e : Ed} {best : UInt32 → Option Lb} {x : Lb} (h : ¬ e.w.toNat + x.dist.toNat < 9223372036854775808) : candB e best x = best := by unfold candB; rw [if_neg h]
theorem foldl_succ {α β : Type} (f : β → α → β) (b : β) {l : List α} {k : Nat} (hk : k < l.length) : (l.take (k + 1)).foldl f b = f ((l.take k).foldl f b) l[k] := by
  rw [List.take_succ_eq_append_getElem hk, List.foldl_append]; rfl
set_option maxHeartbeats 8000000 in
theorem add_any (hsv : SvP) (v : UInt32) (ev : Value) (up : List Ed) (sp : Nat) (sv : Value) (all : List Ow) (w : World) (h : RdE w ev up) (hn : up.length ≤ 400) (hs : w.cell? ⟨sp, 0, none⟩ = some sv) (hS : RdS w sv all) (ha : all.length ≤ 600) (hm : ∀ x, (ofS all x).length ≤ 600) :
    Calls Try.prog 14 #[.int .u32 v.toNat, ev, .func (.func 15) #[.pointer (some ⟨sp, 0, none⟩)] #[]] w fun e w' => ∃ u l, e = .returned u ∧ OwnL w' w.heap.size u l ∧ BestL (addB v up (ofS all)) l ∧ l.length ≤ 1000000 ∧ w.grownBy w' none := by
  obtain ⟨A, c, rfl⟩ := h.form
  obtain ⟨g, off, hA, _, hcells⟩ := h.at_ ed4
  have HA := Lib.hid hA
  have HC := Lib.hid hcells
  have HS := Lib.hid hsv
  have HP := Lib.hid fun (wx : World) (bp m : Nat) (hp : PutS wx bp m 0 (fun _ => none)) => put_any hp (by omega) ⟨v, v, 0⟩
  have HO := Lib.hid fun (wx : World) (hg : w.grownBy wx none) (x : UInt32) => of_any sp sv all x wx (hg.cell hs (by simp)) (hS.ext hg) (by omega) (by have := hm x; omega)
  have HM := Lib.hid hm
  have hmm := @run_makeMap Try.prog
  have hnil := eqf_fn
  clear hA hcells h hsv hs hS hm
  go_enter Try.func14, Try.ntmps14
  go_wp2_with fail
  refine (HP.out _ _ _ (put0 w)).mono ?_
  rintro e w1 ⟨rfl, hp1, g1⟩
  have HP1 := Lib.hid hp1
  have G1 : Hid (w.grownBy w1 none) := gr_trans (gr_none (gr_alloc w _ none) (gr_alloc _ _ none)) g1 (.inr fun k e => by cases e; exact Nat.le_refl _)
  have hz1 : w.heap.size + 2 ≤ w1.heap.size := by have := g1.size; simp at this; omega
  clear hp1 g1
  go_wp2_with fail
  go_loopw [24] (fun i wr => ∃ k n : Nat, k ≤ up.length ∧ i = .int .i64 k ∧ n ≤ 1 + 600 * k ∧ Hid (PutS wr (w.heap.size + 1) w.heap.size n ((up.take k).foldl (edgeB (ofS all)) (firstB v))) ∧ w.grownBy wr none ∧ w.heap.size + 2 ≤ wr.heap.size) (fun i _ => up.length - (intOf i).toNat)
  case atStart => exact ⟨0, 1, by omega, rfl, by omega, HP1, G1.out, hz1⟩
  case round =>
    obtain ⟨k, n, hk, rfl, hnk, hp, hg, hz⟩ := hrel
    obtain ⟨wo, rfl⟩ : ∃ wo, wo = wr := ⟨_, rfl⟩
    have hcb : wo.cell? ⟨w.heap.size + 1, 0, none⟩ = some (.map (some w.heap.size)) := hp.out.box.cell 0
    by_cases hlt : k < up.length
    · have := HA.out (by omega)
      subst this
      have HF := Lib.hid (foldl_succ (edgeB (ofS all)) (firstB v) hlt)
      rcases hx : up[k] with ⟨ea, eb, ec, ed⟩
      obtain ⟨c0, c1, c2, c3⟩ := at4E HC.out hg hlt hx
      have Hx := Lib.hid hx
      have HP2 := Lib.hid (hp.out.ext (gr_alloc wo (.cells #[.int .u32 ea.toNat, .int .u32 eb.toNat, .int .u64 ec.toNat, .int .u32 ed.toNat] 49) none))
      have G2 := Lib.hid (gr_none hg (gr_alloc wo (.cells #[.int .u32 ea.toNat, .int .u32 eb.toNat, .int .u64 ec.toNat, .int .u32 ed.toNat] 49) none))
      have HLM := HM.out eb
      have HOF := Lib.hid (HO.out _ G2.out eb)
      have HB3 := Lib.hid (Blk.new wo 49 #[.int .u32 ea.toNat, .int .u32 eb.toNat, .int .u64 ec.toNat, .int .u32 ed.toNat])
      have hz2 := G2.out.size
      clear hx hp hg hcb
      generalize hL : ofS all eb = L at HLM HOF
      have HLE := Lib.hid hL
      clear hL
      go_wp2_with (go_at_call 15; refine HOF.out.mono ?_; rintro e w3 ⟨⟨u, rfl, o3⟩, g3⟩; obtain ⟨A3, c5, rfl⟩ := o3.rd.form; have O3 := Lib.hid o3; have HB4 := Lib.hid (HB3.out.ext g3); have HP3 := Lib.hid (HP2.out.ext g3); have G3 := Lib.hid (gr_none G2.out g3); clear o3 g3)
      have hf1 : w3.cell? ⟨wo.heap.size, 1, none⟩ = some (.int .u32 eb.toNat) := HB4.out.cell 1
      have hf2 : w3.cell? ⟨wo.heap.size, 2, none⟩ = some (.int .u64 ec.toNat) := HB4.out.cell 2
      obtain ⟨g3, off3, hA3, _, hc3⟩ := O3.out.rd.at_ lb3
      have HA3 := Lib.hid hA3
      have HC3 := Lib.hid hc3
      have HGB : Hid (0 < L.length → w.heap.size ≠ g3) := fun h0 => by
        have := O3.out.lt g3 (by rw [HA3.out h0]; rfl)
        simp at this
        omega
      have hz3 := G3.out.size
      clear hA3 hc3
      generalize hB0 : (up.take k).foldl (edgeB (ofS all)) (firstB v) = best0 at HP3 HF
      have HB0 := Lib.hid hB0
      clear hB0
      go_loopw [35] (fun i wq => ∃ j n2 : Nat, j ≤ L.length ∧ i = .int .i64 j ∧ n2 ≤ n + j ∧ Hid (PutS wq (w.heap.size + 1) w.heap.size n2 ((L.take j).foldl (candB ⟨ea, eb, ec, ed⟩) best0)) ∧ w3.grownBy wq (some w.heap.size)) (fun i _ => L.length - (intOf i).toNat)
      case atStart => exact ⟨0, n, by omega, rfl, by omega, HP3, gr_refl _ _⟩
      case round =>
        obtain ⟨j, n2, hj, rfl, hn2, hp, hg⟩ := hrel
        have hcb : wr.cell? ⟨w.heap.size + 1, 0, none⟩ = some (.map (some w.heap.size)) := hp.out.box.cell 0
        have hf1q := hg.cell hf1 (by simp; omega)
        have hf2q := hg.cell hf2 (by simp; omega)
        by_cases hlj : j < L.length
        · have := HA3.out (by omega)
          subst this
          have HSU := Lib.hid (foldl_succ (candB ⟨ea, eb, ec, ed⟩) best0 hlj)
          rcases hy : L[j] with ⟨xa, xb, xd⟩
          obtain ⟨d0, d1, d2⟩ := at3Lr HC3.out hg (HGB.out (by omega)) hlj hy
          have HY := Lib.hid hy
          have HPQ := Lib.hid (hp.out.ext (gr_alloc wr (.cells #[.int .u32 xa.toNat, .int .u32 xb.toNat, .int .u64 xd.toNat] 39) none))
          have HGQ := Lib.hid (gr_none hg (gr_alloc wr (.cells #[.int .u32 xa.toNat, .int .u32 xb.toNat, .int .u64 xd.toNat] 39) none))
          have HAW := Lib.hid (addw_any ec.toNat xd.toNat ec.toNat_lt xd.toNat_lt)
          have hcb2 : (wr.alloc (.cells #[.int .u32 xa.toNat, .int .u32 xb.toNat, .int .u64 xd.toNat] 39)).cell? ⟨w.heap.size + 1, 0, none⟩ = some (.map (some w.heap.size)) := (gr_alloc _ _ none).cell hcb (by simp)
          have hf1q2 := (gr_alloc wr (.cells #[.int .u32 xa.toNat, .int .u32 xb.toNat, .int .u64 xd.toNat] 39) none).cell hf1q (by simp)
          have hf2q2 := (gr_alloc wr (.cells #[.int .u32 xa.toNat, .int .u32 xb.toNat, .int .u64 xd.toNat] 39) none).cell hf2q (by simp)
          by_cases hsum : ec.toNat + xd.toNat < 9223372036854775808
          · rw [addV_lt hsum] at HAW
            have HPT : Hid (Calls Try.prog 27 #[.agg #[.int .u32 xa.toNat, .int .u32 eb.toNat, .int .u64 ((ec.toNat + xd.toNat : Nat) : Int)], .pointer (some ⟨w.heap.size + 1, 0, none⟩)] (wr.alloc (.cells #[.int .u32 xa.toNat, .int .u32 xb.toNat, .int .u64 xd.toNat] 39)) fun e w' => e = .returned (.tuple #[]) ∧ PutS w' (w.heap.size + 1) w.heap.size (n2 + 1) (((L.take (j + 1)).foldl (candB ⟨ea, eb, ec, ed⟩) best0)) ∧ (wr.alloc (.cells #[.int .u32 xa.toNat, .int .u32 xb.toNat, .int .u64 xd.toNat] 39)).grownBy w' (some w.heap.size)) := by
              have := put_any HPQ.out (by omega) ⟨xa, eb, UInt64.ofNat (ec.toNat + xd.toNat)⟩
              unfold Lb.v at this
              simp only [] at this
              rw [u64_ofNat _ (by omega)] at this
              have e1 : (L.take (j + 1)).foldl (candB ⟨ea, eb, ec, ed⟩) best0 = putB ((L.take j).foldl (candB ⟨ea, eb, ec, ed⟩) best0) ⟨xa, eb, UInt64.ofNat (ec.toNat + xd.toNat)⟩ := by
                rw [HSU.out, HY.out, candB_put hsum]
              rw [e1]
              exact this
            generalize hs : ec.toNat + xd.toNat = s at *
            clear hs hsum hy hp hg
            go_wp2_with (go_at_call 31; refine (HAW.out _).mono ?_; rintro e w5 ⟨rfl, rfl⟩)
            refine HPT.out.mono ?_
            rintro e w6 ⟨rfl, hp6, g6⟩
            have HP6 := Lib.hid hp6
            have G6 := Lib.hid (gr_trans HGQ.out g6 (.inl rfl))
            clear hp6 g6
            go_wp2
            go_roundw
            case rel => exact ⟨j + 1, n2 + 1, by omega, by go_num, by omega, HP6, G6.out⟩
            case measure => simp [intOf]; omega
          · rw [addV_ge hsum] at HAW
            have HPT : Hid (PutS (wr.alloc (.cells #[.int .u32 xa.toNat, .int .u32 xb.toNat, .int .u64 xd.toNat] 39)) (w.heap.size + 1) w.heap.size n2 (((L.take (j + 1)).foldl (candB ⟨ea, eb, ec, ed⟩) best0))) := by
              show PutS _ _ _ _ _
              rw [HSU.out, HY.out, candB_no hsum]
              exact HPQ.out
            clear hsum hy hp hg
            go_wp2_with (go_at_call 31; refine (HAW.out _).mono ?_; rintro e w5 ⟨rfl, rfl⟩)
            go_roundw
            case rel => exact ⟨j + 1, n2, by omega, by go_num, by omega, HPT, HGQ.out⟩
            case measure => simp [intOf]; omega
        · obtain rfl : j = L.length := by omega
          have HPE : Hid (PutS wr (w.heap.size + 1) w.heap.size n2 ((up.take (k + 1)).foldl (edgeB (ofS all)) (firstB v))) := by
            have h1 := hp.out
            rw [List.take_length] at h1
            show PutS _ _ _ _ _
            rw [HF.out, Hx.out]
            unfold edgeB
            simp only []
            rw [HLE.out]
            exact h1
          have G7 := Lib.hid (gr_trans G3.out hg (.inr fun q e => by cases e; exact Nat.le_refl _))
          have hz7 := hg.size
          have hz8 := HB4.out.lt
          clear hp hg
          go_wp2
          go_roundw
          case rel => exact ⟨k + 1, n2, by omega, by go_num, by omega, HPE, G7.out, by omega⟩
          case measure => simp [intOf]; omega
    · obtain rfl : k = up.length := by omega
      have HP2 : Hid (PutS wo (w.heap.size + 1) w.heap.size n (addB v up (ofS all))) := by
        have h1 := hp.out
        rw [List.take_length] at h1
        exact h1
      have G2 := Lib.hid hg
      clear hp hg
      go_wp2_with (first
        | (go_at_call 33; refine (values_any HP2.out).mono ?_; rintro e w3 ⟨b, rfl, hp3, g3⟩; have HP3 := Lib.hid hp3; have G3 := Lib.hid (gr_none G2.out g3); clear hp3 g3)
        | (go_at_call 32; refine (HS.out _ _ _ _ _ HP3.out (AtHub.add v up (ofS all)) (by omega)).mono ?_; rintro e w4 ⟨u, l, rfl, o4, hb4, hl4, g4⟩))
      go_ret
      exact ⟨_, _, rfl, o4.mono G3.out.size, hb4, by omega, gr_none G3.out g4⟩
end Go.Proofs.Ytfgkmimhibpceaa
