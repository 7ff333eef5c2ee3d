/-
  journal's Back, where the power stays.
-/
import Derived.Test.YtipankjajdpiiaaGreatJ6
import Derived.Test.YtipankjajdpiiaaGreatJg
import Derived.Test.YtipankjajdpiiaaGreatJa
namespace Go.Proofs.YtipankjajdpiiaaGreat
open Go.RowKit
set_option maxRecDepth 100000
set_option maxHeartbeats 400000

theorem RdR.takeF {w : World} {A : Option Addr} {n c : Nat} {b : List Rc} (h : RdR w (.slice A n c) b) {k : Nat} (hk : k ≤ b.length) : RdR w (.slice A k c) (b.take k) := by
  obtain ⟨hl, A', c', g, off, e, hn, hc, hA0, hA, hx⟩ := h
  cases e
  have hl' : (b.take k).length = k := List.length_take_of_le hk
  have e2 : rcL b = rcL (b.take k) ++ rcL (b.drop k) := by rw [← rcL_append, List.take_append_drop]
  have h3 : (rcL (b.take k)).length = k * 3 := by rw [rcL_len, hl']
  unfold RdR
  rw [hl']
  refine ⟨h3, _, _, g, off, rfl, by omega, hc, hA0, fun h0 => hA (by omega), fun j hj => ?_⟩
  rw [hx j (by omega), e2, List.getElem?_append_left (by omega)]
def backD (S : Dk) (n : Nat) : Dk := (S.cutTo jn (64 * n)).synced jn
section
variable {w w' : World} {B d jb : Nat} {o o' : Own1} {S : Dk} {c : Con} {v : Value} {l : List Rc}
theorem back_bad (hj : JR w B o jb d v l) (n : Int) (hn : n < 0 ∨ (l.length : Int) < n) :
    Calls Tryz.prog 24 #[.pointer (some ⟨jb, 0, none⟩), .int .i64 n] w fun e w' => e = .returned (.int .i64 1) ∧ w = w' := by
  obtain ⟨A, cv, rfl⟩ := hj.own.rd.form
  have hc1 : w.cell? ⟨jb, 1, none⟩ = some (.slice A l.length cv) := hj.box.cell 1
  clear hj
  by_cases h0 : n < 0
  · clear hn
    go_enter Tryz.func24, Tryz.ntmps24
    go_wp2
    go_ret
    exact ⟨rfl, rfl⟩
  · have h1 : decide (n < 0) = false := by simpa using h0
    have h2 : (l.length : Int) < n := by omega
    clear hn h0
    go_enter Tryz.func24, Tryz.ntmps24
    go_wp2
    go_ret
    exact ⟨rfl, rfl⟩
set_option maxHeartbeats 2000000 in
theorem back_idle (h : DI w B o d S c) (hj : JR w B o jb d v l) (hi : Idle S) {f : Fi} (hf : S.find jn = some f) (n : Nat) (hn : n ≤ l.length) (hl : l.length ≤ 65536) (hfl : 64 * l.length ≤ f.now.length) :
    Calls Tryz.prog 24 #[.pointer (some ⟨jb, 0, none⟩), .int .i64 n] w (AddOut w B d jb (backD S n) (l.take n)) := by
  obtain ⟨A, cv, rfl⟩ := hj.own.rd.form
  have hc0 : w.cell? ⟨jb, 0, none⟩ = some (.pointer (some ⟨d, 0, none⟩)) := hj.box.cell 0
  have hc1 : w.cell? ⟨jb, 1, none⟩ = some (.slice A l.length cv) := hj.box.cell 1
  have H := Lib.hid h
  have HJ := Lib.hid hj
  have hcu := cut_any h jn (by simp) ((64 * n : Nat) : Int) (by omega)
  rw [cut_idle hi jn_right hf (by omega)] at hcu
  have hmul : ((64 * n : Nat) : Int) = (n : Int) * 64 := by omega
  rw [hmul] at hcu
  have HCU := Lib.hid hcu
  have hf2 : (S.cutTo jn (64 * n)).find jn = some { f with now := f.now.take (64 * n), lasts := f.lasts.take (64 * n) } := by rw [find_cutTo, hf]; simp [(find_some hf).2]
  have hsy := sync_idle (S := S.cutTo jn (64 * n)) ⟨hi.1, hi.2⟩ jn_right hf2
  have HSY := Lib.hid hsy
  have hni : (n : Int) ≤ (l.length : Int) := by omega
  have d2 : decide (l.length < n) = false := by simpa using hn
  have d3 : decide ((l.length : Int) < (n : Int)) = false := by simp; omega
  have hcap : (n : Int) ≤ (cv : Int) := by
    obtain ⟨_, _, _, _, _, e, hq, _⟩ := hj.own
    cases e; omega
  clear h hj hi hf hcu hf2 hsy hmul hfl
  go_enter Tryz.func24, Tryz.ntmps24
  go_wp2_with fail
  refine HCU.out.mono ?_
  rintro e w1 ⟨rfl, o1, c1, h1, ch1⟩
  have hj1 := HJ.out.ch ch1
  have hb0 : w1.cell? ⟨jb, 0, none⟩ = some (.pointer (some ⟨d, 0, none⟩)) := hj1.box.cell 0
  have hs1 := sync_any h1 jn (by simp)
  rw [HSY.out] at hs1
  have HS1 := Lib.hid hs1
  have HJ1 := Lib.hid hj1
  have HC1 := Lib.hid ch1
  have HT1 := Lib.hid (fun i (hi : o1 i ≠ none) => (h1.inb i hi).1)
  clear h1 ch1 hj1 hs1 HCU
  go_wp2_with fail
  refine HS1.out.mono ?_
  rintro e w2 ⟨rfl, o2, c2, h2, ch2⟩
  have hj2 := HJ1.out.ch ch2
  have hb1 : w2.cell? ⟨jb, 1, none⟩ = some (.slice A l.length cv) := hj2.box.cell 1
  have HJ2 := Lib.hid hj2
  have H2 := Lib.hid h2
  have HC2 := Lib.hid ch2
  have HCL := Lib.hid (cloneR (.slice A n cv) (l.take n) w2 (hj2.own.rd.takeF hn) (by rw [List.length_take]; omega))
  clear h2 ch2 hj2 HS1
  go_wp2_with fail
  refine HCL.out.mono ?_
  rintro e w3 ⟨⟨v3, rfl, o3⟩, g3⟩
  obtain ⟨A3, c3, rfl⟩ := o3.rd.form
  have hlen3 : (l.take n).length = n := by rw [List.length_take]; omega
  have hb3 : w3.cell? ⟨jb, 1, none⟩ = some (.slice A l.length cv) := (HJ2.out.box.ext g3).cell 1
  have hf3 := (HJ2.out.box.ext g3).frozen 1
  have HO3 := Lib.hid o3
  have G3 := Lib.hid g3
  clear o3 g3
  rw [hlen3]
  go_wp2
  go_ret
  have hO := HO3.out
  rw [hlen3] at hO
  have hjb := HJ2.out.box.lt
  have hbk : ∀ k, blk (.slice A3 n c3) = some k → w2.heap.size ≤ k := fun k hk => (Own.blk_lt hO (by omega) hk).1
  have hset := gr_setCell w3 ⟨jb, 1, none⟩ (.slice A3 n c3)
  have hdi : DI (w3.setCell ⟨jb, 1, none⟩ (.slice A3 n c3)) B o2 d (backD S n) c2 := (H2.out.ext G3.out).far hset fun k e => by cases e; exact HJ2.out.free.1
  refine ⟨.slice A3 n c3, o2, c2, rfl, hdi, ⟨?_, ?_, ⟨HJ2.out.free.1, fun k hk => ?_⟩, HJ.out.jB, fun k hk e => ?_⟩, fun w0 hB hg => ?_⟩
  · exact (HJ2.out.box.ext G3.out).set 1 _
  · exact Own.mono (Own.same hO fun k hk => heap_far _ _ _ (by have := hbk k hk; simp; omega)) (by have := H2.out.base; omega)
  · have := hbk k hk
    cases e : o2 k with
    | none => rfl
    | some t => have := (H2.out.inb k (by rw [e]; simp)).2; omega
  · have := hbk k hk; omega
  · have g1 := HC1.out.gr hg fun i hi => Nat.le_trans hB (H.out.inb i hi).1
    have g2 := HC2.out.gr g1 fun i hi => Nat.le_trans hB (HT1.out i hi)
    exact gr_trans (gr_none g2 G3.out) hset (.inr fun k e => by cases e; exact Nat.le_trans hB HJ.out.jB)
end
end Go.Proofs.YtipankjajdpiiaaGreat

/- journal's Add and Back on any disk. -/
namespace Go.Proofs.YtipankjajdpiiaaGreat
open Go.RowKit
set_option maxRecDepth 100000
set_option maxHeartbeats 400000

/-- Add to a journal of the records l: the disk, the records, what is told. -/
def Dk.jadd (S : Dk) (l : List Rc) (r : Rc) : Dk × List Rc × Nat :=
  if r.k = 0 then (S, l, 1) else if 65536 ≤ l.length then (S, l, 9) else
  if (S.write jn ((64 * l.length : Nat) : Int) (secB (l.length + 1) r)).2 = 0 then
    (if ((S.write jn ((64 * l.length : Nat) : Int) (secB (l.length + 1) r)).1.sync jn).2 = 0 then (((S.write jn ((64 * l.length : Nat) : Int) (secB (l.length + 1) r)).1.sync jn).1, l ++ [r], 0)
      else (((S.write jn ((64 * l.length : Nat) : Int) (secB (l.length + 1) r)).1.sync jn).1, l, ((S.write jn ((64 * l.length : Nat) : Int) (secB (l.length + 1) r)).1.sync jn).2))
  else ((S.write jn ((64 * l.length : Nat) : Int) (secB (l.length + 1) r)).1, l, (S.write jn ((64 * l.length : Nat) : Int) (secB (l.length + 1) r)).2)
def Dk.jback (S : Dk) (l : List Rc) (n : Int) : Dk × List Rc × Nat :=
  if n < 0 ∨ (l.length : Int) < n then (S, l, 1) else
  if (S.cut jn (64 * n)).2 = 0 then
    (if ((S.cut jn (64 * n)).1.sync jn).2 = 0 then (((S.cut jn (64 * n)).1.sync jn).1, l.take n.toNat, 0) else (((S.cut jn (64 * n)).1.sync jn).1, l, ((S.cut jn (64 * n)).1.sync jn).2))
  else ((S.cut jn (64 * n)).1, l, (S.cut jn (64 * n)).2)
section
variable {w w' : World} {B d jb : Nat} {o o' : Own1} {S : Dk} {c : Con} {v : Value} {l : List Rc}
def JAddOut (o : Own1) (w : World) (B d jb : Nat) (v : Value) (X : Dk × List Rc × Nat) (e : Ending) (w' : World) : Prop :=
  ∃ v' o' c', e = .returned (.int .i64 X.2.2) ∧ DI w' B o' d X.1 c' ∧ JR w' B o' jb d v' X.2.1 ∧ Ch (jo o jb v) w (jo o' jb v') w'
theorem JR.blk_ (h : JR w B o jb d v l) : ∃ A c, v = .slice A l.length c := h.own.rd.form
set_option maxHeartbeats 4000000 in
theorem jadd_gen (h : DI w B o d S c) (hj : JR w B o jb d v l) (r : Rc) (hfs : S.fs.length ≤ 1000000) (hnl : S.nl ≤ 4611686018427387000) :
    Calls Tryz.prog 23 #[.pointer (some ⟨jb, 0, none⟩), .agg r.cells] w (JAddOut o w B d jb v (S.jadd l r)) := by
  by_cases hr : r.k = 0
  · have e : S.jadd l r = (S, l, 1) := if_pos hr
    rw [e]
    have hrk : (r.k.toNat : Int) = 0 := by rw [hr]; rfl
    have H := Lib.hid h
    have HJ := Lib.hid hj
    clear h hj hr e
    unfold Rc.cells
    rw [hrk]
    clear hrk
    go_enter Tryz.func23, Tryz.ntmps23
    go_wp2
    go_ret
    have g := gr_alloc w (.cells #[.int .u32 0, .int .u32 r.a.toNat, .int .u32 r.b.toNat] 38) none
    exact ⟨v, o, c, rfl, H.out.ext g, HJ.out.ch (Ch.ext g), Ch.ext g⟩
  by_cases hl : 65536 ≤ l.length
  · have e : S.jadd l r = (S, l, 9) := by unfold Dk.jadd; rw [if_neg hr, if_pos hl]
    rw [e]
    obtain ⟨A, cv, rfl⟩ := hj.own.rd.form
    have hk0 : ((r.k.toNat : Int) == 0) = false := by
      rw [beq_eq_false_iff_ne]
      intro e
      exact hr (UInt32.toNat_inj.1 (by simpa using e))
    have hc1 : w.cell? ⟨jb, 1, none⟩ = some (.slice A l.length cv) := hj.box.cell 1
    have hjw : jb < w.heap.size := hj.box.lt
    have hge : decide ((65536 : Int) ≤ (l.length : Int)) = true := by simp only [decide_eq_true_eq]; omega
    have hge2 : decide (65536 ≤ l.length) = true := by simp only [decide_eq_true_eq]; exact hl
    have H := Lib.hid h
    have HJ := Lib.hid hj
    clear h hj hr e hl
    have g := gr_alloc w (.cells #[.int .u32 r.k.toNat, .int .u32 r.a.toNat, .int .u32 r.b.toNat] 38) none
    have HG := Lib.hid g
    clear g
    unfold Rc.cells
    go_enter Tryz.func23, Tryz.ntmps23
    go_wp2
    go_ret
    exact ⟨_, o, c, rfl, H.out.ext HG.out, HJ.out.ch (Ch.ext HG.out), Ch.ext HG.out⟩
  have hX : S.jadd l r = if (S.write jn ((64 * l.length : Nat) : Int) (secB (l.length + 1) r)).2 = 0 then
    (if ((S.write jn ((64 * l.length : Nat) : Int) (secB (l.length + 1) r)).1.sync jn).2 = 0 then (((S.write jn ((64 * l.length : Nat) : Int) (secB (l.length + 1) r)).1.sync jn).1, l ++ [r], 0)
      else (((S.write jn ((64 * l.length : Nat) : Int) (secB (l.length + 1) r)).1.sync jn).1, l, ((S.write jn ((64 * l.length : Nat) : Int) (secB (l.length + 1) r)).1.sync jn).2))
    else ((S.write jn ((64 * l.length : Nat) : Int) (secB (l.length + 1) r)).1, l, (S.write jn ((64 * l.length : Nat) : Int) (secB (l.length + 1) r)).2) := by
    unfold Dk.jadd; rw [if_neg hr, if_neg hl]
  obtain ⟨S1, hS1⟩ : ∃ S1, S1 = (S.write jn ((64 * l.length : Nat) : Int) (secB (l.length + 1) r)).1 := ⟨_, rfl⟩
  obtain ⟨e1, he1⟩ : ∃ e1, e1 = (S.write jn ((64 * l.length : Nat) : Int) (secB (l.length + 1) r)).2 := ⟨_, rfl⟩
  rw [← hS1, ← he1] at hX
  have HWQ : Hid (S.write jn ((64 * l.length : Nat) : Int) (secB (l.length + 1) r) = (S1, e1)) := by show _ = _; rw [hS1, he1]
  obtain ⟨A, cv, rfl⟩ := hj.own.rd.form
  have hrk := r.k.toNat_lt
  have hra := r.a.toNat_lt
  have hrb := r.b.toNat_lt
  have hk0 : ((r.k.toNat : Int) == 0) = false := by
    rw [beq_eq_false_iff_ne]
    intro e
    exact hr (UInt32.toNat_inj.1 (by simpa using e))
  have hc0 : w.cell? ⟨jb, 0, none⟩ = some (.pointer (some ⟨d, 0, none⟩)) := hj.box.cell 0
  have hc1 : w.cell? ⟨jb, 1, none⟩ = some (.slice A l.length cv) := hj.box.cell 1
  have HBW := Lib.hid (Blk.new w 38 r.cells)
  have H := Lib.hid h
  have HJ := Lib.hid hj
  have HX := Lib.hid hX
  have HRC : Hid (r.cells = #[.int .u32 r.k.toNat, .int .u32 r.a.toNat, .int .u32 r.b.toNat]) := rfl
  have hli : (l.length : Int) < 65536 := by omega
  have HL : Hid (l.length < 65536) := by show _ < _; omega
  have hge : decide ((65536 : Int) ≤ (l.length : Int)) = false := by simp only [decide_eq_false_iff_not]; omega
  have hge2 : decide (65536 ≤ l.length) = false := by simp only [decide_eq_false_iff_not]; omega
  have HNL := Lib.hid hnl
  clear h hj hr hnl hl hX hS1 he1
  unfold Rc.cells at HBW ⊢
  have hjw : jb < w.heap.size := HJ.out.box.lt
  have hfree : ∀ k, w.heap.size ≤ k → o k = none := fun k hk => by
    cases e : o k with
    | none => rfl
    | some t => exact absurd (H.out.inb k (by rw [e]; simp)).2 (by omega)
  have hsec : Hid (∀ N : Int, N = (l.length : Int) + 1 → Calls Tryz.prog 70 #[.slice (some ⟨w.heap.size + 1, 0, none⟩) 4 4] (((w.alloc (.cells #[.int .u32 r.k.toNat, .int .u32 r.a.toNat, .int .u32 r.b.toNat] 38)).alloc (.cells #[.int .u32 N, .int .u32 r.k.toNat, .int .u32 r.a.toNat, .int .u32 r.b.toNat] 36)).drew)
      fun e w' => (∃ v', e = .returned v' ∧ OwnB w' w.heap.size v' (secB (l.length + 1) r)) ∧ w.grownBy w' none ∧ (((w.alloc (.cells #[.int .u32 r.k.toNat, .int .u32 r.a.toNat, .int .u32 r.b.toNat] 38))).grownBy w' none)) := fun N hN => by
    subst hN
    have hrdl := rd_lit (w.alloc (.cells #[.int .u32 r.k.toNat, .int .u32 r.a.toNat, .int .u32 r.b.toNat] 38)) 1 4 4 #[.int .u32 ((l.length : Int) + 1), .int .u32 r.k.toNat, .int .u32 r.a.toNat, .int .u32 r.b.toNat] 36 rfl (Nat.le_refl _) (by unfold maxLen; omega)
    rw [World.size_alloc] at hrdl
    have e1 : ((l.length + 1 : Nat) : Int) = (l.length : Int) + 1 := by omega
    refine (sector_rec _ (l.length + 1) (by omega) r _ (by rw [e1]; exact hrdl)).mono ?_
    rintro e w' ⟨⟨v', rfl, o1⟩, g1⟩
    refine ⟨⟨v', rfl, Own.mono o1 ?_⟩, ?_, ?_⟩
    · show w.heap.size ≤ ((w.alloc _).alloc _).heap.size
      rw [World.size_alloc, World.size_alloc]; omega
    · exact gr_none (gr_none (gr_none (gr_alloc _ _ none) (gr_alloc _ _ none)) (gr_drew _ none)) g1
    · exact gr_none (gr_none (gr_alloc _ _ none) (gr_drew _ none)) g1
  have hwr : Hid (∀ (wx : World) (v3 : Value) (N : Int), N = (l.length : Int) * 64 → w.grownBy wx none → OwnB wx w.heap.size v3 (secB (l.length + 1) r) → Calls Tryz.prog 27 #[.pointer (some ⟨d, 0, none⟩), .string ⟨jn.toArray⟩, .int .i64 N, v3] wx fun e w' =>
      e = .returned (.int .i64 e1) ∧ DOut o wx B d S1 w') := fun wx v3 N hN hx ho => by
    have hw := write_any (H.out.ext hx) jn (by simp) ((64 * l.length : Nat) : Int) (by have := HL.out; omega) v3 _ ho.rd (fun k hk => ⟨(Own.blk_lt ho (by omega) hk).2, hfree k (Own.blk_lt ho (by omega) hk).1⟩) (by rw [secB_len]; omega) hfs (by rw [secB_len]; have := HNL.out; omega)
    rw [HWQ.out] at hw
    rw [hN, show (l.length : Int) * 64 = ((64 * l.length : Nat) : Int) from by omega]
    exact hw
  have hs1 : IntKind.i64.wrap ((l.length : Int) + 1) = (l.length : Int) + 1 := by rw [IntWalk.i64_in _ (by omega)]
  have hs2 : IntKind.u32.wrap ((l.length : Int) + 1) = (l.length : Int) + 1 := by rw [IntWalk.u32_in _ (by omega)]
  have hs3 : IntKind.i64.wrap ((l.length : Int) * 64) = (l.length : Int) * 64 := by rw [IntWalk.i64_in _ (by omega)]
  have hs4 : ((l.length : Int) + 1) % 4294967296 = (l.length : Int) + 1 := by omega
  go_enter Tryz.func23, Tryz.ntmps23
  go_wp2_with fail
  go_region_held3 (fun w' => w'.cell? ⟨jb, 0, none⟩ = some (.pointer (some ⟨d, 0, none⟩)) ∧ w'.cell? ⟨w.heap.size, 0, none⟩ = some (.int .u32 r.k.toNat) ∧ w'.cell? ⟨w.heap.size, 1, none⟩ = some (.int .u32 r.a.toNat) ∧ w'.cell? ⟨w.heap.size, 2, none⟩ = some (.int .u32 r.b.toNat))
    (first | exact k4 | exact k3 | go_keep)
    (first
      | (go_at_call 70; refine (hsec.out _ rfl).mono ?_; rintro e w3 ⟨⟨v3, rfl, o3⟩, g3, g3'⟩; obtain ⟨A3, c3, rfl⟩ := o3.rd.form; have k3 : w3.cell? ⟨jb, 0, none⟩ = some (.pointer (some ⟨d, 0, none⟩)) ∧ w3.cell? ⟨w.heap.size, 0, none⟩ = some (.int .u32 r.k.toNat) ∧ w3.cell? ⟨w.heap.size, 1, none⟩ = some (.int .u32 r.a.toNat) ∧ w3.cell? ⟨w.heap.size, 2, none⟩ = some (.int .u32 r.b.toNat) := ⟨(HJ.out.box.ext g3).cell 0, (HBW.out.ext g3').cell 0, (HBW.out.ext g3').cell 1, (HBW.out.ext g3').cell 2⟩)
      | (go_at_call 27; refine (hwr.out _ _ _ rfl g3 o3).mono ?_; rintro e w4 ⟨rfl, o4, c4, h4, ch4⟩; have k4 : w4.cell? ⟨jb, 0, none⟩ = some (.pointer (some ⟨d, 0, none⟩)) ∧ w4.cell? ⟨w.heap.size, 0, none⟩ = some (.int .u32 r.k.toNat) ∧ w4.cell? ⟨w.heap.size, 1, none⟩ = some (.int .u32 r.a.toNat) ∧ w4.cell? ⟨w.heap.size, 2, none⟩ = some (.int .u32 r.b.toNat) := ⟨(ch4.blk (HJ.out.box.ext g3) HJ.out.free.1).cell 0, (ch4.blk (HBW.out.ext g3') (hfree _ (Nat.le_refl _))).cell 0, (ch4.blk (HBW.out.ext g3') (hfree _ (Nat.le_refl _))).cell 1, (ch4.blk (HBW.out.ext g3') (hfree _ (Nat.le_refl _))).cell 2⟩))
  have hsy := sync_any h4 jn (by simp)
  have hU : (if e1 = 0 then (if (S1.sync jn).2 = 0 then ((S1.sync jn).1, l ++ [r], 0) else ((S1.sync jn).1, l, (S1.sync jn).2)) else (S1, l, e1)) = S.jadd l r := by rw [HX.out]
  obtain ⟨S2, hS2⟩ : ∃ S2, S2 = (S1.sync jn).1 := ⟨_, rfl⟩
  obtain ⟨e2, he2⟩ : ∃ e2, e2 = (S1.sync jn).2 := ⟨_, rfl⟩
  rw [← hS2, ← he2] at hsy hU
  have HSY := Lib.hid hsy
  have HU := Lib.hid hU
  have HJ4 := Lib.hid ((HJ.out.ch (Ch.ext g3)).ch ch4)
  have HR4 := Lib.hid (ch4.blk (HBW.out.ext g3') (hfree _ (Nat.le_refl _)))
  have hrfree : Hid (o4 w.heap.size = none) := ch4.free _ (Nat.lt_of_lt_of_le (by rw [World.size_alloc]; omega) g3'.size) (hfree _ (Nat.le_refl _))
  have C4 : Hid (Ch o w o4 w4) := (Ch.ext g3).trans ch4
  have H4 := Lib.hid h4
  clear hsy h4 ch4 g3 g3' o3 k3 k4 hs1 hs2 hs3 hs4 hS2 he2 hU hrk hra hrb hli hge hge2
  by_cases hz1 : e1 = 0
  · have hz1e : ((e1 : Int) == 0) = true := by rw [hz1]; rfl
    have HU1 : Hid ((if e2 = 0 then (S2, l ++ [r], 0) else (S2, l, e2)) = S.jadd l r) := by show _ = _; rw [← HU.out, if_pos hz1]
    clear hz1
    have q0 : w4.cell? ⟨jb, 0, none⟩ = some (.pointer (some ⟨d, 0, none⟩)) := HJ4.out.box.cell 0
    go_wp2_with fail
    refine HSY.out.mono ?_
    rintro e w5 ⟨rfl, o5, c5, h5, ch5⟩
    have hj5 := HJ4.out.ch ch5
    have hr5 := ch5.blk HR4.out hrfree.out
    have H5 := Lib.hid h5
    have HJ5 := Lib.hid hj5
    have C5 : Hid (Ch o w o5 w5) := C4.out.trans ch5
    by_cases hz2 : e2 = 0
    · have hz2e : ((e2 : Int) == 0) = true := by rw [hz2]; rfl
      have HU2 : Hid ((S2, l ++ [r], 0) = S.jadd l r) := by show _ = _; rw [← HU1.out, if_pos hz2]
      clear hz2
      have q1 : w5.cell? ⟨jb, 1, none⟩ = some (.slice A l.length cv) := hj5.box.cell 1
      have r0 : w5.cell? ⟨w.heap.size, 0, none⟩ = some (.int .u32 r.k.toNat) := hr5.cell 0
      have r1 : w5.cell? ⟨w.heap.size, 1, none⟩ = some (.int .u32 r.a.toNat) := hr5.cell 1
      have r2 : w5.cell? ⟨w.heap.size, 2, none⟩ = some (.int .u32 r.b.toNat) := hr5.cell 2
      have hB5 := h5.base
      obtain ⟨v7, w7, hrun, ho7, ha7⟩ := run_appS ((w5.alloc (.cells #[.int .u32 r.k.toNat, .int .u32 r.a.toNat, .int .u32 r.b.toNat] 38)).drew) B 46 46 38 _ 3 12 Tryz.underlying46 Tryz.infoR rfl (by omega) (.slice A l.length cv) l.length (rcL l) (OwnR.ext (OwnR.ext hj5.own (gr_alloc _ _ none)) (gr_drew _ none)) (.slice (some ⟨w5.heap.size, 0, none⟩) 1 1) 1 (rcL [r])
        (rd_lit w5 3 1 1 #[.int .u32 r.k.toNat, .int .u32 r.a.toNat, .int .u32 r.b.toNat] 38 rfl (Nat.le_refl _) (by unfold maxLen; omega)) (rc_one [r]) (by have := HL.out; unfold maxLen; omega) (by have := HL.out; omega) (by show B ≤ (w5.alloc _).heap.size; rw [World.size_alloc]; omega)
      have hox := ext_of_app ho7 (by omega) ha7
      have ho7' : OwnR w7 B v7 (l ++ [r]) := ownR_app (m := [r]) ho7
      obtain ⟨A7, c7, rfl⟩ := ho7'.rd.form
      obtain ⟨q, gq, hq, ku, hku, hku2⟩ := hox
      have hqj : q ≠ some jb := fun e => (hj5.sep jb (hq _ e)) rfl
      have hb7 := ((hj5.box.ext (gr_alloc w5 (.cells #[.int .u32 r.k.toNat, .int .u32 r.a.toNat, .int .u32 r.b.toNat] 38) none)).ext (gr_drew _ none)).gr gq hqj
      have q7 : w7.cell? ⟨jb, 1, none⟩ = some (.slice A l.length cv) := hb7.cell 1
      have q8 := hb7.frozen 1
      have hg57 : ∀ i, i < w5.heap.size → q ≠ some i → w7.heap[i]? = w5.heap[i]? := fun i hi hqi => by
        rw [gq.block i (by show i < (w5.alloc _).heap.size; rw [World.size_alloc]; omega) (fun e => hqi e.symm)]
        exact heap_alloc_old w5 _ hi
      have hz57 : w5.heap.size ≤ w7.heap.size := by have := gq.size; have e : ((w5.alloc (.cells #[.int .u32 r.k.toNat, .int .u32 r.a.toNat, .int .u32 r.b.toNat] 38)).drew).heap.size = w5.heap.size + 1 := World.size_alloc _ _; omega
      have HRUN := Lib.hid hrun
      have hkuv : ∀ k, blk (Value.slice A7 (l ++ [r]).length c7) = some k → k = ku := fun k e => by rw [hku] at e; cases e; rfl
      have hkuj : ku ≠ jb := by
        rcases hku2 with e | e
        · exact hj5.sep ku e
        · have := hj5.box.lt; have e2 : ((w5.alloc (.cells #[.int .u32 r.k.toNat, .int .u32 r.a.toNat, .int .u32 r.b.toNat] 38)).drew).heap.size = w5.heap.size + 1 := World.size_alloc _ _; omega
      have hkuo : o5 ku = none := by
        rcases hku2 with e | e
        · exact hj5.free.2 ku e
        · cases e3 : o5 ku with
          | none => rfl
          | some t => have := (h5.inb ku (by rw [e3]; simp)).2; have e2 : ((w5.alloc (.cells #[.int .u32 r.k.toNat, .int .u32 r.a.toNat, .int .u32 r.b.toNat] 38)).drew).heap.size = w5.heap.size + 1 := World.size_alloc _ _; omega
      have HFIN : Hid (DI (w7.setCell ⟨jb, 1, none⟩ (.slice A7 (l ++ [r]).length c7)) B o5 d S2 c5 ∧ JR (w7.setCell ⟨jb, 1, none⟩ (.slice A7 (l ++ [r]).length c7)) B o5 jb d (.slice A7 (l ++ [r]).length c7) (l ++ [r]) ∧ Ch (jo o jb (.slice A l.length cv)) w (jo o5 jb (.slice A7 (l ++ [r]).length c7)) (w7.setCell ⟨jb, 1, none⟩ (.slice A7 (l ++ [r]).length c7))) := by
        refine ⟨h5.keep (by simpa [World.setCell] using hz57) (fun i hi => ?_), ⟨by simpa using hb7.set 1 _, Own.same ho7' (fun k hk => heap_far _ _ _ (by rw [hkuv k hk]; exact hkuj)), ⟨hj5.free.1, fun k hk => by rw [hkuv k hk]; exact hkuo⟩, hj5.jB, fun k hk => by rw [hkuv k hk]; exact hkuj⟩, ?_⟩
        · rw [heap_far _ _ _ (fun e => hi (by rw [e]; exact hj5.free.1))]
          exact hg57 i (h5.inb i hi).2 (fun e => hi (hj5.free.2 i (hq i e)))
        · have gw7 : (w5.alloc (.cells #[.int .u32 r.k.toNat, .int .u32 r.a.toNat, .int .u32 r.b.toNat] 38)).drew.grownBy w7 q := gq
          refine ⟨?_, ?_, ?_, ?_, fun i hi h0 => ?_, fun i hi h0 => ?_⟩
          · exact gw7.os.trans C5.out.os
          · exact gw7.tape.trans C5.out.tape
          · exact gw7.output.trans C5.out.output
          · exact Nat.le_trans C5.out.size (by simpa [World.setCell] using hz57)
          · obtain ⟨n1, n2, n3⟩ := jo_none h0
            rw [heap_far _ _ _ n1, hg57 i (Nat.lt_of_lt_of_le hi C5.out.size) (fun e => n2 (hq i e))]
            exact C5.out.block i hi n3
          · obtain ⟨n1, n2, n3⟩ := jo_none h0
            refine jo_none_mk n1 (fun e => ?_) (C5.out.free i hi n3)
            have e1 : i = ku := hkuv i e
            rcases hku2 with e2 | e2
            · exact n2 (by rw [e1]; exact e2)
            · have e3 : ((w5.alloc (.cells #[.int .u32 r.k.toNat, .int .u32 r.a.toNat, .int .u32 r.b.toNat] 38)).drew).heap.size = w5.heap.size + 1 := World.size_alloc _ _
              have := C5.out.size
              omega
      have q1a : (w5.alloc (.cells #[.int .u32 r.k.toNat, .int .u32 r.a.toNat, .int .u32 r.b.toNat] 38)).cell? ⟨jb, 1, none⟩ = some (.slice A l.length cv) := (World.cell?_alloc_lt w5 _ ⟨jb, 1, none⟩ hj5.box.lt).trans q1
      clear h5 hj5 hr5 hrun ho7 ha7 ho7' hb7 gq hq hku hku2 hqj hg57 hz57 hkuv hkuj hkuo ch5 hfree
      go_wp2_with fail
      go_region_law (refine step_app1R (.tmp 60) (.tmp 62) rfl rfl rfl HRUN.out ?_)
      all_goals
        go_wp2
        go_ret
        have hfin := HFIN.out
        rw [show (l ++ [r]).length = l.length + 1 from by simp] at hfin
        rw [← HU2.out]
        exact ⟨_, o5, c5, rfl, hfin.1, hfin.2.1, hfin.2.2⟩
    · have hz2e : ((e2 : Int) == 0) = false := by rw [beq_eq_false_iff_ne]; omega
      have HU2 : Hid ((S2, l, e2) = S.jadd l r) := by show _ = _; rw [← HU1.out, if_neg hz2]
      clear hz2 h5 hj5 ch5 hfree
      go_wp2
      go_ret
      rw [← HU2.out]
      exact ⟨_, o5, c5, rfl, H5.out, HJ5.out, C5.out.jo⟩
  · have hz1e : ((e1 : Int) == 0) = false := by rw [beq_eq_false_iff_ne]; omega
    have HU1 : Hid ((S1, l, e1) = S.jadd l r) := by show _ = _; rw [← HU.out, if_neg hz1]
    clear hz1 hfree
    go_wp2
    go_ret
    rw [← HU1.out]
    exact ⟨_, o4, c4, rfl, H4.out, HJ4.out, C4.out.jo⟩
set_option maxHeartbeats 4000000 in
theorem jback_gen (h : DI w B o d S c) (hj : JR w B o jb d v l) (n : Int) (hn : -9223372036854775808 ≤ n ∧ n ≤ 9223372036854775807) (hl : l.length ≤ 65536) :
    Calls Tryz.prog 24 #[.pointer (some ⟨jb, 0, none⟩), .int .i64 n] w (JAddOut o w B d jb v (S.jback l n)) := by
  by_cases hb : n < 0 ∨ (l.length : Int) < n
  · have e : S.jback l n = (S, l, 1) := if_pos hb
    rw [e]
    exact (back_bad hj n hb).mono fun e w' hh => by obtain ⟨rfl, rfl⟩ := hh; exact ⟨v, o, c, rfl, h, hj, Ch.refl _ _⟩
  obtain ⟨k, rfl⟩ := Int.eq_ofNat_of_zero_le (show 0 ≤ n by omega)
  have hX : S.jback l (k : Int) = if (S.cut jn (64 * (k : Int))).2 = 0 then
    (if ((S.cut jn (64 * (k : Int))).1.sync jn).2 = 0 then (((S.cut jn (64 * (k : Int))).1.sync jn).1, l.take (k : Int).toNat, 0) else (((S.cut jn (64 * (k : Int))).1.sync jn).1, l, ((S.cut jn (64 * (k : Int))).1.sync jn).2))
    else ((S.cut jn (64 * (k : Int))).1, l, (S.cut jn (64 * (k : Int))).2) := if_neg hb
  have hcu := cut_any h jn (by simp) (64 * (k : Int)) (by omega)
  obtain ⟨S1, hS1⟩ : ∃ S1, S1 = (S.cut jn (64 * (k : Int))).1 := ⟨_, rfl⟩
  obtain ⟨e1, he1⟩ : ∃ e1, e1 = (S.cut jn (64 * (k : Int))).2 := ⟨_, rfl⟩
  rw [← hS1, ← he1] at hX hcu
  rw [show (64 : Int) * (k : Int) = (k : Int) * 64 from by omega] at hcu
  obtain ⟨S2, hS2⟩ : ∃ S2, S2 = (S1.sync jn).1 := ⟨_, rfl⟩
  obtain ⟨e2, he2⟩ : ∃ e2, e2 = (S1.sync jn).2 := ⟨_, rfl⟩
  rw [← hS2, ← he2, Int.toNat_natCast] at hX
  obtain ⟨A, cv, rfl⟩ := hj.own.rd.form
  have hc0 : w.cell? ⟨jb, 0, none⟩ = some (.pointer (some ⟨d, 0, none⟩)) := hj.box.cell 0
  have hc1 : w.cell? ⟨jb, 1, none⟩ = some (.slice A l.length cv) := hj.box.cell 1
  have H := Lib.hid h
  have HJ := Lib.hid hj
  have HCU := Lib.hid hcu
  have HX := Lib.hid hX
  have HE2 : Hid (S1.sync jn = (S2, e2)) := by show _ = _; rw [hS2, he2]
  have hn' : k ≤ l.length := by omega
  have hni : (k : Int) ≤ (l.length : Int) := by omega
  have d2 : decide (l.length < k) = false := by simpa using hn'
  have d3 : decide ((l.length : Int) < (k : Int)) = false := by simp; omega
  have hcap : (k : Int) ≤ (cv : Int) := by
    obtain ⟨_, _, _, _, _, e, hq, _⟩ := hj.own
    cases e; omega
  clear h hj hcu hS1 he1 hS2 he2 hX hb hn
  go_enter Tryz.func24, Tryz.ntmps24
  go_wp2_with fail
  refine HCU.out.mono ?_
  rintro e w1 ⟨rfl, o1, c1, h1, ch1⟩
  have hj1 := HJ.out.ch ch1
  have hb0 : w1.cell? ⟨jb, 0, none⟩ = some (.pointer (some ⟨d, 0, none⟩)) := hj1.box.cell 0
  have hs1 := sync_any h1 jn (by simp)
  rw [HE2.out] at hs1
  have HS1 := Lib.hid hs1
  have HJ1 := Lib.hid hj1
  have H1 := Lib.hid h1
  have HC1 := Lib.hid ch1
  clear h1 ch1 hj1 hs1 HCU
  by_cases hz1 : e1 = 0
  · have hz1e : ((e1 : Int) == 0) = true := by rw [hz1]; rfl
    have HU1 : Hid ((if e2 = 0 then (S2, l.take k, 0) else (S2, l, e2)) = S.jback l (k : Int)) := by show _ = _; rw [HX.out, if_pos hz1]
    clear hz1
    go_wp2_with fail
    refine HS1.out.mono ?_
    rintro e w2 ⟨rfl, o2, c2, h2, ch2⟩
    have hj2 := HJ1.out.ch ch2
    have hb1 : w2.cell? ⟨jb, 1, none⟩ = some (.slice A l.length cv) := hj2.box.cell 1
    have HJ2 := Lib.hid hj2
    have H2 := Lib.hid h2
    have HC2 : Hid (Ch o w o2 w2) := HC1.out.trans ch2
    have HCL := Lib.hid (cloneR (.slice A k cv) (l.take k) w2 (hj2.own.rd.takeF hn') (by rw [List.length_take]; omega))
    clear h2 ch2 hj2 HS1
    by_cases hz2 : e2 = 0
    · have hz2e : ((e2 : Int) == 0) = true := by rw [hz2]; rfl
      have HU2 : Hid ((S2, l.take k, 0) = S.jback l (k : Int)) := by show _ = _; rw [← HU1.out, if_pos hz2]
      clear hz2
      go_wp2_with fail
      refine HCL.out.mono ?_
      rintro e w3 ⟨⟨v3, rfl, o3⟩, g3⟩
      obtain ⟨A3, c3, rfl⟩ := o3.rd.form
      have hlen3 : (l.take k).length = k := by rw [List.length_take]; omega
      have hb3 : w3.cell? ⟨jb, 1, none⟩ = some (.slice A l.length cv) := (HJ2.out.box.ext g3).cell 1
      have hf3 := (HJ2.out.box.ext g3).frozen 1
      have HO3 := Lib.hid o3
      have G3 := Lib.hid g3
      clear o3 g3
      rw [hlen3]
      go_wp2
      go_ret
      have hO := HO3.out
      rw [hlen3] at hO
      have hjb := HJ2.out.box.lt
      have hbk : ∀ j, blk (.slice A3 k c3) = some j → w2.heap.size ≤ j := fun j hk => (Own.blk_lt hO (by omega) hk).1
      have hset := gr_setCell w3 ⟨jb, 1, none⟩ (.slice A3 k c3)
      have hdi : DI (w3.setCell ⟨jb, 1, none⟩ (.slice A3 k c3)) B o2 d S2 c2 := (H2.out.ext G3.out).far hset fun k e => by cases e; exact HJ2.out.free.1
      rw [← HU2.out]
      refine ⟨.slice A3 k c3, o2, c2, rfl, hdi, ⟨?_, ?_, ⟨HJ2.out.free.1, fun j hk => ?_⟩, HJ.out.jB, fun j hk e => ?_⟩, ?_⟩
      · exact (HJ2.out.box.ext G3.out).set 1 _
      · exact Own.mono (Own.same hO fun j hk => heap_far _ _ _ (by have := hbk j hk; simp; omega)) (by have := H2.out.base; omega)
      · have := hbk j hk
        cases e : o2 j with
        | none => rfl
        | some t => have := (H2.out.inb j (by rw [e]; simp)).2; omega
      · have := hbk j hk; omega
      · have hc := (HC2.out.trans (Ch.ext G3.out)).jo (jb := jb) (v := .slice A l.length cv)
        have hc2 := hc.trans (Ch.of_gr hset fun j e => by cases e; unfold jo; rw [if_pos (.inl rfl)]; simp)
        refine ⟨hc2.os, hc2.tape, hc2.output, hc2.size, hc2.block, fun i hi h0 => ?_⟩
        have h9 := hc.free i hi h0
        obtain ⟨n1, n2, n3⟩ := jo_none h9
        refine jo_none_mk n1 (fun e => ?_) n3
        have := hbk i e
        have := HC2.out.size
        omega
    · have hz2e : ((e2 : Int) == 0) = false := by rw [beq_eq_false_iff_ne]; omega
      have HU2 : Hid ((S2, l, e2) = S.jback l (k : Int)) := by show _ = _; rw [← HU1.out, if_neg hz2]
      clear hz2
      go_wp2_with fail
      go_ret
      rw [← HU2.out]
      exact ⟨_, o2, c2, rfl, H2.out, HJ2.out, HC2.out.jo⟩
  · have hz1e : ((e1 : Int) == 0) = false := by rw [beq_eq_false_iff_ne]; omega
    have HU1 : Hid ((S1, l, e1) = S.jback l (k : Int)) := by show _ = _; rw [HX.out, if_neg hz1]
    clear hz1
    go_wp2_with fail
    go_ret
    rw [← HU1.out]
    exact ⟨_, o1, c1, rfl, H1.out, HJ1.out, HC1.out.jo⟩
end
end Go.Proofs.YtipankjajdpiiaaGreat
