/-
  Hub: the anchor.
-/
import Derived.Test.YtfgkmimhibpceaaPHub
namespace Go.Proofs.Ytfgkmimhibpceaa
open Go.RowKit
set_option maxRecDepth 100000
set_option maxHeartbeats 400000

/-- Add, at a shelf's Of. -/
theorem add_of (v : UInt32) (ev : Value) (up : List Ed) (sp : Nat) (sv : Value) (all : List Ow) (w : World) (h : RdE w ev up) (hn : up.length ≤ 400) (hs : w.cell? ⟨sp, 0, none⟩ = some sv) (hS : RdS w sv all) (ha : all.length ≤ 600) (hm : ∀ x, (ofS all x).length ≤ 600) :
    Calls Try.prog 14 #[.int .u32 v.toNat, ev, .func (.func 15) #[.pointer (some ⟨sp, 0, none⟩)] #[]] w fun e w' => (∃ u, e = .returned u ∧ OwnL w' w.heap.size u (addL v up (ofS all)) ∧ (addL v up (ofS all)).length ≤ 1000000) ∧ w.grownBy w' none :=
  (add_any svP v ev up sp sv all w h hn hs hS ha hm).mono fun e w' ⟨u, l, he, ho, hb, hl, hg⟩ => by
    obtain rfl := hb.same (BestL.add v up (ofS all))
    exact ⟨⟨u, he, ho, hl⟩, hg⟩
theorem add_0 (v : UInt32) (ev : Value) (up : List Ed) (w : World) (h : RdE w ev up) (hn : up.length ≤ 1000000000) :
    Calls Try.prog 14 #[.int .u32 v.toNat, ev, .nilFunc] w fun e w' => (∃ u, e = .returned u ∧ OwnL w' w.heap.size u [⟨v, v, 0⟩]) ∧ w.grownBy w' none :=
  (add_nil svP v ev up w h hn).mono fun e w' ⟨u, l, he, ho, hb, hl, hg⟩ => by
    obtain rfl : l = [⟨v, v, 0⟩] := hb.same (BestL.first v)
    exact ⟨⟨u, he, ho⟩, hg⟩
/-- Prune, at a shelf's Of. -/
theorem prune_of (sp : Nat) (sv : Value) (all : List Ow) (v : Value) (l : List Lb) (w : World) (h : RdL w v l) (hn : l.length ≤ 1000000) (hs : w.cell? ⟨sp, 0, none⟩ = some sv) (hS : RdS w sv all) (ha : all.length ≤ 600) (hm : ∀ x, (ofS all x).length ≤ 600) :
    Calls Try.prog 20 #[v, .func (.func 15) #[.pointer (some ⟨sp, 0, none⟩)] #[]] w fun e w' => (∃ u, e = .returned u ∧ OwnL w' w.heap.size u (l.filter fun y => !goneR l (ofS all) y)) ∧ w.grownBy w' none := by
  have := prune_any (.func (.func 15) #[.pointer (some ⟨sp, 0, none⟩)] #[]) (.inr ⟨_, _, _, rfl⟩) (fun near y => goneP near (ofS all) y) v l w h hn
    (fun wx bb bp m n near hg hb hN y => prune1_of hb hN (hg.cell hs (by simp)) (hS.ext hg) ha hm y)
  simp only [gone_same] at this
  exact this
theorem prune_0 (v : Value) (l : List Lb) (w : World) (h : RdL w v l) (hn : l.length ≤ 1000000) :
    Calls Try.prog 20 #[v, .nilFunc] w fun e w' => (∃ u, e = .returned u ∧ OwnL w' w.heap.size u l) ∧ w.grownBy w' none := by
  have := prune_any .nilFunc (.inl rfl) (fun _ _ => false) v l w h hn (fun wx bb bp m n near hg hb hN y => prune1_nil hb y)
  have e : (l.filter fun _ => !false) = l := List.filter_eq_self.2 (fun _ _ => rfl)
  rw [e] at this
  exact this
/-- the anchor's shelf. -/
def shW (s1 s2 : Value) : List Ow := [⟨2, s1, [⟨2, 2, 0⟩, ⟨9, 9, 4⟩]⟩, ⟨9, s2, [⟨2, 2, 3⟩]⟩]
theorem shW_add (s1 s2 : Value) : addL 1 [⟨1, 2, 3, 0⟩] (ofS (shW s1 s2)) = [⟨1, 1, 0⟩, ⟨2, 2, 3⟩, ⟨9, 2, 7⟩] := by
  rfl
theorem shW_prune (s1 s2 : Value) : ([⟨1, 1, 0⟩, ⟨2, 2, 3⟩, ⟨9, 2, 7⟩] : List Lb).filter (fun y => !goneR [⟨1, 1, 0⟩, ⟨2, 2, 3⟩, ⟨9, 2, 7⟩] (ofS (shW s1 s2)) y) = [⟨1, 1, 0⟩, ⟨2, 2, 3⟩] := by
  rfl
theorem shW_len (s1 s2 : Value) (x : UInt32) : (ofS (shW s1 s2) x).length ≤ 600 := by
  rcases ofS_mem (shW s1 s2) x with h | ⟨y, hy, h⟩
  · rw [h]; simp
  · rw [h]
    simp [shW] at hy
    rcases hy with rfl | rfl <;> simp
theorem shW_mem (w W5 : World) (e : W5 = ((((w.alloc (.cells #[.int .u32 2, .int .u32 2, .int .u64 0, .int .u32 9, .int .u32 9, .int .u64 4] 39)).alloc (.cells #[.int .u32 2, .int .u32 2, .int .u64 3] 39)).alloc (.cells #[.int .u32 2, .slice (some ⟨w.heap.size, 0, none⟩) 2 2, .int .u32 9, .slice (some ⟨w.heap.size + 1, 0, none⟩) 1 1] 54)).alloc (.cells #[.slice (some ⟨w.heap.size + 1 + 1, 0, none⟩) 2 2] 29)).alloc (.cells #[.int .u32 1, .int .u32 2, .int .u64 3, .int .u32 0] 49)) :
    w.grownBy W5 none ∧ W5.cell? ⟨w.heap.size + 1 + 1 + 1, 0, none⟩ = some (.slice (some ⟨w.heap.size + 1 + 1, 0, none⟩) 2 2) ∧
    RdS W5 (.slice (some ⟨w.heap.size + 1 + 1, 0, none⟩) 2 2) (shW (.slice (some ⟨w.heap.size, 0, none⟩) 2 2) (.slice (some ⟨w.heap.size + 1, 0, none⟩) 1 1)) ∧ RdE W5 (.slice (some ⟨w.heap.size + 1 + 1 + 1 + 1, 0, none⟩) 1 1) [⟨1, 2, 3, 0⟩] := by
  have hm : ∀ k : Nat, k ≤ 4 → k ≤ maxLen := fun k h => by unfold maxLen; omega
  subst e
  have r1 : RdL (w.alloc (.cells #[.int .u32 2, .int .u32 2, .int .u64 0, .int .u32 9, .int .u32 9, .int .u64 4] 39)) (.slice (some ⟨w.heap.size, 0, none⟩) 2 2) [⟨2, 2, 0⟩, ⟨9, 9, 4⟩] := rd_lit w 3 2 2 _ _ rfl (Nat.le_refl _) (hm 2 (by omega))
  generalize h1 : w.alloc (.cells #[.int .u32 2, .int .u32 2, .int .u64 0, .int .u32 9, .int .u32 9, .int .u64 4] 39) = w1 at *
  have z1 : w1.heap.size = w.heap.size + 1 := by rw [← h1, World.size_alloc]
  have g1 : w.grownBy w1 none := by rw [← h1]; exact gr_alloc _ _ _
  have r2 : RdL (w1.alloc (.cells #[.int .u32 2, .int .u32 2, .int .u64 3] 39)) (.slice (some ⟨w1.heap.size, 0, none⟩) 1 1) [⟨2, 2, 3⟩] := rd_lit w1 3 1 1 _ _ rfl (Nat.le_refl _) (hm 1 (by omega))
  rw [z1] at r2
  generalize h2 : w1.alloc (.cells #[.int .u32 2, .int .u32 2, .int .u64 3] 39) = w2 at *
  have z2 : w2.heap.size = w.heap.size + 1 + 1 := by rw [← h2, World.size_alloc, z1]
  have g2 : w1.grownBy w2 none := by rw [← h2]; exact gr_alloc _ _ _
  have r3 : RdG Ow.enc 2 (w2.alloc (.cells #[.int .u32 2, .slice (some ⟨w.heap.size, 0, none⟩) 2 2, .int .u32 9, .slice (some ⟨w.heap.size + 1, 0, none⟩) 1 1] 54)) (.slice (some ⟨w2.heap.size, 0, none⟩) 2 2) (shW (.slice (some ⟨w.heap.size, 0, none⟩) 2 2) (.slice (some ⟨w.heap.size + 1, 0, none⟩) 1 1)) := rd_lit w2 2 2 2 _ _ rfl (Nat.le_refl _) (hm 2 (by omega))
  rw [z2] at r3
  generalize h3 : w2.alloc (.cells #[.int .u32 2, .slice (some ⟨w.heap.size, 0, none⟩) 2 2, .int .u32 9, .slice (some ⟨w.heap.size + 1, 0, none⟩) 1 1] 54) = w3 at *
  have z3 : w3.heap.size = w.heap.size + 1 + 1 + 1 := by rw [← h3, World.size_alloc, z2]
  have g3 : w2.grownBy w3 none := by rw [← h3]; exact gr_alloc _ _ _
  have r4 : (w3.alloc (.cells #[.slice (some ⟨w.heap.size + 1 + 1, 0, none⟩) 2 2] 29)).cell? ⟨w3.heap.size, 0, none⟩ = some (.slice (some ⟨w.heap.size + 1 + 1, 0, none⟩) 2 2) := by rw [cell_new]; rfl
  rw [z3] at r4
  generalize h4 : w3.alloc (.cells #[.slice (some ⟨w.heap.size + 1 + 1, 0, none⟩) 2 2] 29) = w4 at *
  have z4 : w4.heap.size = w.heap.size + 1 + 1 + 1 + 1 := by rw [← h4, World.size_alloc, z3]
  have g4 : w3.grownBy w4 none := by rw [← h4]; exact gr_alloc _ _ _
  have r5 : RdE (w4.alloc (.cells #[.int .u32 1, .int .u32 2, .int .u64 3, .int .u32 0] 49)) (.slice (some ⟨w4.heap.size, 0, none⟩) 1 1) [⟨1, 2, 3, 0⟩] := rd_lit w4 4 1 1 _ _ rfl (Nat.le_refl _) (hm 1 (by omega))
  rw [z4] at r5
  have g5 := gr_alloc w4 (.cells #[.int .u32 1, .int .u32 2, .int .u64 3, .int .u32 0] 49) none
  refine ⟨gr_none g1 (gr_none g2 (gr_none g3 (gr_none g4 g5))), g5.cell r4 (by simp), ⟨r3.ext (gr_none g4 g5), fun x hx => ?_⟩, r5⟩
  simp [shW] at hx
  rcases hx with rfl | rfl
  · exact r1.ext (gr_none g2 (gr_none g3 (gr_none g4 g5)))
  · exact r2.ext (gr_none g3 (gr_none g4 g5))
theorem ris2 : ¬ Ris [⟨2, 0, 0⟩, ⟨2, 0, 0⟩] := fun h => by have := h 0 (by simp); simp at this
theorem risW : Ris [⟨1, 1, 0⟩, ⟨2, 2, 3⟩, ⟨9, 2, 7⟩] := ((Ris.nil_.cons (y := ⟨9, 2, 7⟩) (by simp)).cons (y := ⟨2, 2, 3⟩) (by simp)).cons (by simp)
set_option maxHeartbeats 4000000 in
theorem works_any (w : World) : Calls Try.prog 12 #[] w fun e w' => e = .returned (.bool true) ∧ w.grownBy w' none := by
  go_enter Try.func12, Try.ntmps12
  go_wp2_with fail
  obtain ⟨W5, hW5⟩ : ∃ W5, W5 = ((((w.alloc (.cells #[.int .u32 2, .int .u32 2, .int .u64 0, .int .u32 9, .int .u32 9, .int .u64 4] 39)).alloc (.cells #[.int .u32 2, .int .u32 2, .int .u64 3] 39)).alloc (.cells #[.int .u32 2, .slice (some ⟨w.heap.size, 0, none⟩) 2 2, .int .u32 9, .slice (some ⟨w.heap.size + 1, 0, none⟩) 1 1] 54)).alloc (.cells #[.slice (some ⟨w.heap.size + 1 + 1, 0, none⟩) 2 2] 29)).alloc (.cells #[.int .u32 1, .int .u32 2, .int .u64 3, .int .u32 0] 49) := ⟨_, rfl⟩
  obtain ⟨g5, hs, hS, hE⟩ := shW_mem w W5 hW5
  rw [← hW5]
  clear hW5
  generalize hsv : shW (.slice (some ⟨w.heap.size, 0, none⟩) 2 2) (.slice (some ⟨w.heap.size + 1, 0, none⟩) 1 1) = sh at *
  have HA := add_of 1 _ [⟨1, 2, 3, 0⟩] _ _ sh W5 hE (by simp) hs hS (by subst hsv; simp [shW]) (by subst hsv; exact shW_len _ _)
  have e1 : addL 1 [⟨1, 2, 3, 0⟩] (ofS sh) = [⟨1, 1, 0⟩, ⟨2, 2, 3⟩, ⟨9, 2, 7⟩] := by subst hsv; exact shW_add _ _
  rw [e1] at HA
  have HPR := Lib.hid fun (wx : World) (hg : W5.grownBy wx none) (u : Value) (hu : RdL wx u [⟨1, 1, 0⟩, ⟨2, 2, 3⟩, ⟨9, 2, 7⟩]) => prune_of _ _ sh u _ wx hu (by simp) (hg.cell hs (by simp)) (hS.ext hg) (by subst hsv; simp [shW]) (by subst hsv; exact shW_len _ _)
  have e2 : ([⟨1, 1, 0⟩, ⟨2, 2, 3⟩, ⟨9, 2, 7⟩] : List Lb).filter (fun y => !goneR [⟨1, 1, 0⟩, ⟨2, 2, 3⟩, ⟨9, 2, 7⟩] (ofS sh) y) = [⟨1, 1, 0⟩, ⟨2, 2, 3⟩] := by subst hsv; exact shW_prune _ _
  rw [e2] at HPR
  have HA2 := Lib.hid HA
  have G5 := Lib.hid g5
  clear HA hs hS hE hsv e1 e2 g5
  refine HA2.out.mono ?_
  rintro e w6 ⟨⟨u, rfl, ho, -⟩, g6⟩
  have HO := Lib.hid ho.rd
  obtain ⟨A6, c6, rfl⟩ := ho.rd.form
  have HP6 := Lib.hid (HPR.out w6 g6 _ ho.rd)
  have G6 := Lib.hid (gr_none G5.out g6)
  clear ho g6
  go_wp2_with fail
  refine HP6.out.mono ?_
  rintro e w7 ⟨⟨u7, rfl, ho7⟩, g7⟩
  obtain ⟨A7, c7, rfl⟩ := ho7.rd.form
  have HO7 := Lib.hid (HO.out.ext g7)
  have G7 := Lib.hid (gr_none G6.out g7)
  obtain ⟨g9, off9, hA9, -, hc9⟩ := HO7.out.at_ lb3
  obtain rfl := hA9 (by simp)
  obtain ⟨d0, d1, d2⟩ := at3L hc9 (gr_refl _ _) (k := 2) (by simp) rfl
  have HRI := Lib.hid fun (wx : World) (hg : w7.grownBy wx none) => right_any _ _ wx (HO7.out.ext hg) (by simp)
  clear ho7 g7 hc9 hA9
  have HR2 := Lib.hid fun (w8 : World) => right_any (.slice (some ⟨w8.heap.size, 0, none⟩) 2 2) [⟨2, 0, 0⟩, ⟨2, 0, 0⟩] (w8.alloc (.cells #[.int .u32 2, .int .u32 0, .int .u64 0, .int .u32 2, .int .u32 0, .int .u64 0] 39)) (rd_lit w8 3 2 2 _ _ rfl (Nat.le_refl _) (by unfold maxLen; omega)) (by simp)
  go_wp2_with fail
  refine (HRI.out w7 (gr_refl _ _)).mono ?_
  rintro e w8 ⟨⟨b, rfl, hb⟩, g8⟩
  obtain rfl : b = true := hb.2 risW
  have G8 := Lib.hid (gr_none G7.out g8)
  clear hb g8
  go_wp2_with fail
  refine (HR2.out w8).mono ?_
  rintro e w9 ⟨⟨b, rfl, hb⟩, g9⟩
  obtain rfl : b = false := by
    cases b
    · rfl
    · exact absurd (hb.1 rfl) ris2
  have G9 := Lib.hid (gr_none G8.out (gr_none (gr_alloc _ _ none) g9))
  clear hb g9
  go_wp2
  go_ret
  exact ⟨rfl, G9.out⟩
end Go.Proofs.Ytfgkmimhibpceaa
