/-
  journal's Back, where the power stays.
-/
import Derived.Test.YtfbbbbekialpnaaJ6
namespace Go.Proofs.Ytfbbbbekialpnaa
open Go.RowKit
set_option maxRecDepth 100000
set_option maxHeartbeats 400000

theorem RdR.takeF {w : World} {A : Option Addr} {n c : Nat} {b : List Rc} (h : RdR w (.slice A n c) b) {k : Nat} (hk : k ≤ b.length) : RdR w (.slice A k c) (b.take k) := by
  obtain ⟨hl, A', c', g, off, e, hn, hc, hA0, hA, hx⟩ := h
  cases e
  have hl' : (b.take k).length = k := List.length_take_of_le hk
  have e2 : rcL b = rcL (b.take k) ++ rcL (b.drop k) := by rw [← rcL_append, List.take_append_drop]
  have h3 : (rcL (b.take k)).length = k * 3 := by rw [rcL_len, hl']
  unfold RdR
  rw [hl']
  refine ⟨h3, _, _, g, off, rfl, by omega, hc, hA0, fun h0 => hA (by omega), fun j hj => ?_⟩
  rw [hx j (by omega), e2, List.getElem?_append_left (by omega)]
def backD (S : Dk) (n : Nat) : Dk := (S.cutTo jn (64 * n)).synced jn
section
variable {w w' : World} {B d jb : Nat} {o o' : Own1} {S : Dk} {c : Con} {v : Value} {l : List Rc}
theorem back_bad (hj : JR w B o jb d v l) (n : Int) (hn : n < 0 ∨ (l.length : Int) < n) :
    Calls Try.prog 43 #[.pointer (some ⟨jb, 0, none⟩), .int .i64 n] w fun e w' => e = .returned (.int .i64 1) ∧ w = w' := by
  obtain ⟨A, cv, rfl⟩ := hj.own.rd.form
  have hc1 : w.cell? ⟨jb, 1, none⟩ = some (.slice A l.length cv) := hj.box.cell 1
  clear hj
  by_cases h0 : n < 0
  · clear hn
    go_enter Try.func43, Try.ntmps43
    go_wp2
    go_ret
    exact ⟨rfl, rfl⟩
  · have h1 : decide (n < 0) = false := by simpa using h0
    have h2 : (l.length : Int) < n := by omega
    clear hn h0
    go_enter Try.func43, Try.ntmps43
    go_wp2
    go_ret
    exact ⟨rfl, rfl⟩
set_option maxHeartbeats 2000000 in
theorem back_idle (h : DI w B o d S c) (hj : JR w B o jb d v l) (hi : Idle S) {f : Fi} (hf : S.find jn = some f) (n : Nat) (hn : n ≤ l.length) (hl : l.length ≤ 65536) (hfl : 64 * l.length ≤ f.now.length) :
    Calls Try.prog 43 #[.pointer (some ⟨jb, 0, none⟩), .int .i64 n] w (AddOut w B d jb (backD S n) (l.take n)) := by
  obtain ⟨A, cv, rfl⟩ := hj.own.rd.form
  have hc0 : w.cell? ⟨jb, 0, none⟩ = some (.pointer (some ⟨d, 0, none⟩)) := hj.box.cell 0
  have hc1 : w.cell? ⟨jb, 1, none⟩ = some (.slice A l.length cv) := hj.box.cell 1
  have H := Lib.hid h
  have HJ := Lib.hid hj
  have hcu := cut_any h jn (by simp) ((64 * n : Nat) : Int) (by omega)
  rw [cut_idle hi jn_right hf (by omega)] at hcu
  have hmul : ((64 * n : Nat) : Int) = (n : Int) * 64 := by omega
  rw [hmul] at hcu
  have HCU := Lib.hid hcu
  have hf2 : (S.cutTo jn (64 * n)).find jn = some { f with now := f.now.take (64 * n), lasts := f.lasts.take (64 * n) } := by rw [find_cutTo, hf]; simp [(find_some hf).2]
  have hsy := sync_idle (S := S.cutTo jn (64 * n)) ⟨hi.1, hi.2⟩ jn_right hf2
  have HSY := Lib.hid hsy
  have hni : (n : Int) ≤ (l.length : Int) := by omega
  have d2 : decide (l.length < n) = false := by simpa using hn
  have d3 : decide ((l.length : Int) < (n : Int)) = false := by simp; omega
  have hcap : (n : Int) ≤ (cv : Int) := by
    obtain ⟨_, _, _, _, _, e, hq, _⟩ := hj.own
    cases e; omega
  clear h hj hi hf hcu hf2 hsy hmul hfl
  go_enter Try.func43, Try.ntmps43
  go_wp2_with fail
  refine HCU.out.mono ?_
  rintro e w1 ⟨rfl, o1, c1, h1, ch1⟩
  have hj1 := HJ.out.ch ch1
  have hb0 : w1.cell? ⟨jb, 0, none⟩ = some (.pointer (some ⟨d, 0, none⟩)) := hj1.box.cell 0
  have hs1 := sync_any h1 jn (by simp)
  rw [HSY.out] at hs1
  have HS1 := Lib.hid hs1
  have HJ1 := Lib.hid hj1
  have HC1 := Lib.hid ch1
  have HT1 := Lib.hid (fun i (hi : o1 i ≠ none) => (h1.inb i hi).1)
  clear h1 ch1 hj1 hs1 HCU
  go_wp2_with fail
  refine HS1.out.mono ?_
  rintro e w2 ⟨rfl, o2, c2, h2, ch2⟩
  have hj2 := HJ1.out.ch ch2
  have hb1 : w2.cell? ⟨jb, 1, none⟩ = some (.slice A l.length cv) := hj2.box.cell 1
  have HJ2 := Lib.hid hj2
  have H2 := Lib.hid h2
  have HC2 := Lib.hid ch2
  have HCL := Lib.hid (cloneR (.slice A n cv) (l.take n) w2 (hj2.own.rd.takeF hn) (by rw [List.length_take]; omega))
  clear h2 ch2 hj2 HS1
  go_wp2_with fail
  refine HCL.out.mono ?_
  rintro e w3 ⟨⟨v3, rfl, o3⟩, g3⟩
  obtain ⟨A3, c3, rfl⟩ := o3.rd.form
  have hlen3 : (l.take n).length = n := by rw [List.length_take]; omega
  have hb3 : w3.cell? ⟨jb, 1, none⟩ = some (.slice A l.length cv) := (HJ2.out.box.ext g3).cell 1
  have hf3 := (HJ2.out.box.ext g3).frozen 1
  have HO3 := Lib.hid o3
  have G3 := Lib.hid g3
  clear o3 g3
  rw [hlen3]
  go_wp2
  go_ret
  have hO := HO3.out
  rw [hlen3] at hO
  have hjb := HJ2.out.box.lt
  have hbk : ∀ k, blk (.slice A3 n c3) = some k → w2.heap.size ≤ k := fun k hk => (Own.blk_lt hO (by omega) hk).1
  have hset := gr_setCell w3 ⟨jb, 1, none⟩ (.slice A3 n c3)
  have hdi : DI (w3.setCell ⟨jb, 1, none⟩ (.slice A3 n c3)) B o2 d (backD S n) c2 := (H2.out.ext G3.out).far hset fun k e => by cases e; exact HJ2.out.free.1
  refine ⟨.slice A3 n c3, o2, c2, rfl, hdi, ⟨?_, ?_, ⟨HJ2.out.free.1, fun k hk => ?_⟩, HJ.out.jB, fun k hk e => ?_⟩, fun w0 hB hg => ?_⟩
  · exact (HJ2.out.box.ext G3.out).set 1 _
  · exact Own.mono (Own.same hO fun k hk => heap_far _ _ _ (by have := hbk k hk; simp; omega)) (by have := H2.out.base; omega)
  · have := hbk k hk
    cases e : o2 k with
    | none => rfl
    | some t => have := (H2.out.inb k (by rw [e]; simp)).2; omega
  · have := hbk k hk; omega
  · have g1 := HC1.out.gr hg fun i hi => Nat.le_trans hB (H.out.inb i hi).1
    have g2 := HC2.out.gr g1 fun i hi => Nat.le_trans hB (HT1.out i hi)
    exact gr_trans (gr_none g2 G3.out) hset (.inr fun k e => by cases e; exact Nat.le_trans hB HJ.out.jB)
end
end Go.Proofs.Ytfbbbbekialpnaa
