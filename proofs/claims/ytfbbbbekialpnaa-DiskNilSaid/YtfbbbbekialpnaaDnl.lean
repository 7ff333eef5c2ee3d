/-
  DiskNil, the walk.
-/
import Derived.Test.YtfbbbbekialpnaaDon1
namespace Go.Proofs.Ytfbbbbekialpnaa
open Go.RowKit
set_option maxRecDepth 100000
set_option maxHeartbeats 400000

theorem files_dnil (w : World) : Calls Try.prog 46 #[.pointer none] w fun e w' => e = .returned (.slice none 0 0) ∧ w.grownBy w' none := by
  go_enter Try.func46, Try.ntmps46
  go_wp2_with fail
  refine (names_dnil _).mono ?_
  rintro e w1 ⟨rfl, g1⟩
  go_wp2_with fail
  go_loop [3, 5, 9] (fun l _ i => l = .slice none 0 0 ∧ i = .int .i64 0) (fun _ _ _ => 0)
  case atStart => exact ⟨rfl, rfl⟩
  case round =>
    obtain ⟨rfl, rfl⟩ := hrel
    go_wp2
    go_ret
    exact ⟨rfl, g1⟩
set_option maxHeartbeats 2000000 in
theorem dnil_any (w : World) (o : OpV) (ho : OpOk w o) :
    Calls Try.prog 12 #[.agg #[.int .i64 o.kind, .string ⟨o.name.toArray⟩, .string ⟨o.into.toArray⟩, .int .i64 o.off, .int .i64 o.n, o.bv, .int .u8 o.mask.toNat, o.kv]] w fun e w' => e = .returned (.bool true) ∧ w.grownBy w' none := by
  have HO := Lib.hid ho
  obtain ⟨w1, hw1⟩ : ∃ w1, w1 = w.alloc (.cells #[.int .i64 o.kind, .string ⟨o.name.toArray⟩, .string ⟨o.into.toArray⟩, .int .i64 o.off, .int .i64 o.n, o.bv, .int .u8 o.mask.toNat, o.kv] 79) := ⟨_, rfl⟩
  obtain ⟨w2, hw2⟩ : ∃ w2, w2 = w1.alloc (.cells #[.int .i64 o.kind, .string ⟨o.name.toArray⟩, .string ⟨o.into.toArray⟩, .int .i64 o.off, .int .i64 o.n, o.bv, .int .u8 o.mask.toNat, o.kv] 79) := ⟨_, rfl⟩
  have g1 : w.grownBy w1 none := by rw [hw1]; exact gr_alloc _ _ _
  have g12 : w1.grownBy w2 none := by rw [hw2]; exact gr_alloc _ _ _
  have g2 := gr_none g1 g12
  have hz1 : w1.heap.size = w.heap.size + 1 := by rw [hw1]; simp
  have hb1 : Blk w2 w.heap.size 79 #[.int .i64 o.kind, .string ⟨o.name.toArray⟩, .string ⟨o.into.toArray⟩, .int .i64 o.off, .int .i64 o.n, o.bv, .int .u8 o.mask.toNat, o.kv] := by
    refine Blk.ext ?_ g12
    rw [hw1]; exact Blk.new _ _ _
  have hro : RdO w2 (.slice (some ⟨w.heap.size + 1, 0, none⟩) 1 1) [o] := by
    refine ⟨?_, fun x hx => by rw [List.mem_singleton.1 hx]; exact ho.ext g2⟩
    have := rd_lit w1 8 1 1 #[.int .i64 o.kind, .string ⟨o.name.toArray⟩, .string ⟨o.into.toArray⟩, .int .i64 o.off, .int .i64 o.n, o.bv, .int .u8 o.mask.toNat, o.kv] 79 rfl (Nat.le_refl _) (by unfold maxLen; omega)
    rw [hz1, ← hw2] at this
    exact this
  have HV := Lib.hid (vast_any _ [o] w2 hro)
  have HB1 := Lib.hid hb1
  have G2 := Lib.hid g2
  have HW2 : Hid (w2 = (w.alloc (.cells #[.int .i64 o.kind, .string ⟨o.name.toArray⟩, .string ⟨o.into.toArray⟩, .int .i64 o.off, .int .i64 o.n, o.bv, .int .u8 o.mask.toNat, o.kv] 79)).alloc (.cells #[.int .i64 o.kind, .string ⟨o.name.toArray⟩, .string ⟨o.into.toArray⟩, .int .i64 o.off, .int .i64 o.n, o.bv, .int .u8 o.mask.toNat, o.kv] 79)) := by show _ = _; rw [hw2, hw1]
  have HK := Lib.hid ho.kind
  clear hw1 hw2 g1 g12 g2 hz1 hb1 hro ho
  go_enter Try.func12, Try.ntmps12
  go_wp2_with fail
  rw [← HW2.out]
  refine HV.out.mono ?_
  rintro e w3 ⟨rfl, q3, hq3⟩
  have g3 : w2.grownBy w3 none := by rw [hq3]; exact gr_drewN _ _ none
  have hc3 := (HB1.out.ext g3).cell
  have HC3 := Lib.hid (HB1.out.ext g3)
  have G3 := Lib.hid (gr_none G2.out g3)
  clear hq3 g3
  cases hv : vastB [o] with
  | true =>
    clear hc3
    go_wp2_with (go_at_call 15; refine (works6_any _).mono ?_; rintro e w4 ⟨rfl, g4⟩)
    go_ret
    exact ⟨rfl, gr_none G3.out g4⟩
  | false =>
    have hw := (vast_no hv).2
    have hw' : opW o ≤ 65536 := by unfold sumW at hw; simpa using hw
    have HD := Lib.hid (does_nil_any w3 o (HO.out.ext G3.out) hw')
    clear hv hw hw'
    go_wp2_with fail
    refine HD.out.mono ?_
    rintro e w4 ⟨v4, rfl, o4, g4⟩
    obtain ⟨A4, c4, rfl⟩ := o4.rd.form
    have HB4 := Lib.hid (HC3.out.ext g4)
    have G4 := Lib.hid (gr_none G3.out g4)
    have hkk := HK.out
    simp only [List.length_nil]
    have fin : ∀ (wx : World), w.grownBy wx none → True := fun _ _ => trivial
    clear o4 g4 hc3 HC3 HD fin
    by_cases hk : 0 ≤ o.kind ∧ o.kind ≤ 11
    · rw [if_pos hk]
      have hc5 : ∀ i, (w4.alloc (.cells #[.slice A4 0 c4, .int .i64 0, .int .i64 2] 84)).cell? ⟨w.heap.size, i, none⟩ = #[Value.int .i64 o.kind, .string ⟨o.name.toArray⟩, .string ⟨o.into.toArray⟩, .int .i64 o.off, .int .i64 o.n, o.bv, .int .u8 o.mask.toNat, o.kv][i]? := (HB4.out.ext (gr_alloc _ _ none)).cell
      have k1 : decide (0 ≤ o.kind) = true := by simpa using hk.1
      have k2 : decide (o.kind ≤ 11) = true := by simpa using hk.2
      clear hk
      go_wp2_with (first
        | (go_at_call 58; refine (names_dnil _).mono ?_; rintro e w5 ⟨rfl, g5⟩)
        | (go_at_call 23; refine (loose_dnil _).mono ?_; rintro e w6 ⟨rfl, g6⟩)
        | (go_at_call 46; refine (files_dnil _).mono ?_; rintro e w7 ⟨rfl, g7⟩)
        | (go_at_call 52; refine (used_dnil _).mono ?_; rintro e w8 ⟨rfl, g8⟩)
        | (go_at_call 34; refine (dead_dnil _).mono ?_; rintro e w9 ⟨rfl, g9⟩)
        | (go_at_call 15; refine (works6_any _).mono ?_; rintro e w10 ⟨rfl, g10⟩))
      go_ret
      exact ⟨rfl, gr_none (gr_none (gr_none (gr_none (gr_none (gr_none (gr_none G4.out (gr_alloc _ _ none)) g5) g6) g7) g8) g9) g10⟩
    · rw [if_neg hk]
      have hc5 : ∀ i, (w4.alloc (.cells #[.slice A4 0 c4, .int .i64 0, .int .i64 0] 84)).cell? ⟨w.heap.size, i, none⟩ = #[Value.int .i64 o.kind, .string ⟨o.name.toArray⟩, .string ⟨o.into.toArray⟩, .int .i64 o.off, .int .i64 o.n, o.bv, .int .u8 o.mask.toNat, o.kv][i]? := (HB4.out.ext (gr_alloc _ _ none)).cell
      rcases (show o.kind < 0 ∨ (0 ≤ o.kind ∧ 11 < o.kind) by omega) with h | ⟨h, h'⟩
      · have k1 : decide (0 ≤ o.kind) = false := by simpa using h
        clear hk
        go_wp2_with (first
          | (go_at_call 58; refine (names_dnil _).mono ?_; rintro e w5 ⟨rfl, g5⟩)
          | (go_at_call 23; refine (loose_dnil _).mono ?_; rintro e w6 ⟨rfl, g6⟩)
          | (go_at_call 46; refine (files_dnil _).mono ?_; rintro e w7 ⟨rfl, g7⟩)
          | (go_at_call 52; refine (used_dnil _).mono ?_; rintro e w8 ⟨rfl, g8⟩)
          | (go_at_call 34; refine (dead_dnil _).mono ?_; rintro e w9 ⟨rfl, g9⟩)
          | (go_at_call 15; refine (works6_any _).mono ?_; rintro e w10 ⟨rfl, g10⟩))
        go_ret
        exact ⟨rfl, gr_none (gr_none (gr_none (gr_none (gr_none (gr_none (gr_none G4.out (gr_alloc _ _ none)) g5) g6) g7) g8) g9) g10⟩
      · have k1 : decide (0 ≤ o.kind) = true := by simpa using h
        have k2 : decide (o.kind ≤ 11) = false := by simpa using h'
        clear hk
        go_wp2_with (first
          | (go_at_call 58; refine (names_dnil _).mono ?_; rintro e w5 ⟨rfl, g5⟩)
          | (go_at_call 23; refine (loose_dnil _).mono ?_; rintro e w6 ⟨rfl, g6⟩)
          | (go_at_call 46; refine (files_dnil _).mono ?_; rintro e w7 ⟨rfl, g7⟩)
          | (go_at_call 52; refine (used_dnil _).mono ?_; rintro e w8 ⟨rfl, g8⟩)
          | (go_at_call 34; refine (dead_dnil _).mono ?_; rintro e w9 ⟨rfl, g9⟩)
          | (go_at_call 15; refine (works6_any _).mono ?_; rintro e w10 ⟨rfl, g10⟩))
        go_ret
        exact ⟨rfl, gr_none (gr_none (gr_none (gr_none (gr_none (gr_none (gr_none G4.out (gr_alloc _ _ none)) g5) g6) g7) g8) g9) g10⟩
end Go.Proofs.Ytfbbbbekialpnaa
