/-
  A disk's inner functions: what each answers.
-/
import Derived.Test.YtkfokgjpeaibpaaDi
namespace Go.Proofs.Ytkfokgjpeaibpaa
open Go.RowKit
set_option maxRecDepth 100000
set_option maxHeartbeats 400000

theorem sectors_any (n : Int) (w : World) (h0 : 0 ≤ n) (h1 : n ≤ 1000000000000) : Calls Try.prog 82 #[.int .i64 n] w fun e w' => e = .returned (.int .i64 (sectors n.toNat)) ∧ w = w' := by
  have e : (n + 64 - 1) / 64 = ((sectors n.toNat : Nat) : Int) := by unfold sectors; omega
  have E := Lib.hid e
  clear e
  go_enter Try.func82, Try.ntmps82
  go_wp2
  go_ret
  exact ⟨by rw [E.out]; rfl, rfl⟩
section
variable {w : World} {B d : Nat} {o : Own1} {S : Dk} {c : Con}
theorem begin_nil (w : World) : Calls Try.prog 62 #[.pointer none] w fun e w' => e = .returned (.int .i64 2) ∧ w = w' := by
  go_enter Try.func62, Try.ntmps62
  go_wp2
  go_ret
  exact ⟨rfl, rfl⟩
theorem begin_any (h : DI w B o d S c) : Calls Try.prog 62 #[.pointer (some ⟨d, 0, none⟩)] w fun e w' =>
    e = .returned (.int .i64 (if S.begin.dead then 6 else 0)) ∧ DI w' B o d S.begin c ∧ w.grownBy w' (some d) := by
  have hs := h.self
  have hc := hs.cell
  have hf := hs.frozen
  have hl := h.lim
  have H := Lib.hid h
  unfold selfC at hc hs
  have HS := Lib.hid hs
  clear h hs
  obtain ⟨fs, L, nl, q, a, dd⟩ := S
  simp only at hc hl
  by_cases h0 : 0 < a
  · by_cases h1 : a = 1
    · subst h1
      have hb : Dk.begin ⟨fs, L, nl, q, 1, dd⟩ = ⟨fs, L, nl, q, 0, true⟩ := by simp [Dk.begin]
      rw [hb]
      have HB := Lib.hid (DI.numbers H.out (gr_trans (gr_setCell w ⟨d, 3, none⟩ (.int .i64 0)) (gr_setCell (w.setCell ⟨d, 3, none⟩ (.int .i64 0)) ⟨d, 4, none⟩ (.bool true)) (.inl rfl)) q 0 true (by simpa [selfC] using (HS.out.set 3 (.int .i64 0)).set 4 (.bool true)) hl.1 (by omega))
      cases dd
      all_goals
        go_enter Try.func62, Try.ntmps62
        go_wp2
        go_ret
        exact ⟨rfl, HB.out, gr_trans (gr_setCell w ⟨d, 3, none⟩ _) (gr_setCell _ ⟨d, 4, none⟩ _) (.inl rfl)⟩
    · have hb : Dk.begin ⟨fs, L, nl, q, a, dd⟩ = ⟨fs, L, nl, q, a - 1, dd⟩ := by simp [Dk.begin, h0, h1]
      rw [hb]
      have e1 : ((a - 1 : Nat) : Int) = (a : Int) - 1 := by omega
      have ne0 : ((a : Int) - 1 == 0) = false := by rw [beq_eq_false_iff_ne]; omega
      have HB := Lib.hid (DI.numbers H.out (gr_trans (gr_setCell w ⟨d, 3, none⟩ (.int .i64 ((a : Int) - 1))) (gr_setCell (w.setCell ⟨d, 3, none⟩ (.int .i64 ((a : Int) - 1))) ⟨d, 4, none⟩ (.bool dd)) (.inl rfl)) q (a - 1) dd (by rw [selfC, e1]; simpa [selfC] using (HS.out.set 3 (.int .i64 ((a : Int) - 1))).set 4 (.bool dd)) hl.1 (by omega))
      clear e1
      cases dd
      all_goals
        go_enter Try.func62, Try.ntmps62
        go_wp2
        go_ret
        exact ⟨rfl, HB.out, gr_trans (gr_setCell w ⟨d, 3, none⟩ _) (gr_setCell _ ⟨d, 4, none⟩ _) (.inl rfl)⟩
  · have hb : Dk.begin ⟨fs, L, nl, q, a, dd⟩ = ⟨fs, L, nl, q, a, dd⟩ := by simp [Dk.begin, h0]
    rw [hb]
    cases dd
    all_goals
      go_enter Try.func62, Try.ntmps62
      go_wp2
      go_ret
      exact ⟨rfl, H.out, gr_refl _ _⟩
theorem look_nil (w : World) : Calls Try.prog 66 #[.pointer none] w fun e w' => e = .returned (.int .i64 2) ∧ w = w' := by
  go_enter Try.func66, Try.ntmps66
  go_wp2
  go_ret
  exact ⟨rfl, rfl⟩
theorem look_any (h : DI w B o d S c) : Calls Try.prog 66 #[.pointer (some ⟨d, 0, none⟩)] w fun e w' => e = .returned (.int .i64 (if S.dead then 6 else 0)) ∧ w = w' := by
  have hc := h.self.cell
  unfold selfC at hc
  clear h
  cases hd : S.dead
  all_goals
    rw [hd] at hc
    have Hd := Lib.hid hd
    clear hd
    go_enter Try.func66, Try.ntmps66
    go_wp2
    go_ret
    exact ⟨rfl, rfl⟩
end

theorem right_any (s : List UInt8) (w : World) (hs : s.length ≤ 1000000000) : Calls Try.prog 75 #[.string ⟨s.toArray⟩] w fun e w' => e = .returned (.bool (rightB s)) ∧ w.grownBy w' none := by
  have hmx : s.length ≤ maxLen := by unfold maxLen; omega
  go_enter Try.func75, Try.ntmps75
  go_wp2_with (refine wp_bytes rfl (.tmp 5) rfl s rfl hmx ?_; rintro v4 w4 h4 g4 ⟨c4, rfl⟩)
  obtain ⟨hl, A, c, g, off, e, hn, hc, hA0, hA, hx⟩ := h4.rd
  cases e
  have hoff : off = 0 ∨ s.length = 0 := by
    rcases Nat.eq_zero_or_pos s.length with e | e
    · exact .inr e
    · have := hA (by omega); cases this; exact .inl rfl
  have hcell : ∀ k, k < s.length → w4.cell? ⟨w.heap.size, k, none⟩ = some (.int .u8 (s.getD k 0).toNat) := fun k hk => by
    have e := hA (by omega)
    cases e
    have := hx k (by omega)
    rw [Nat.zero_add] at this
    rw [this, List.getElem?_map, List.getElem?_eq_getElem hk]
    simp [u8v, List.getD, hk]
  have Hcell := Lib.hid hcell
  have G4 := Lib.hid g4
  clear hcell hA hA0 hx h4 g4 hoff hl
  go_loop [8] (fun i => ∃ k : Nat, k ≤ s.length ∧ i = .int .i64 k ∧ (s.take k).all okChar = true) (fun i => s.length - (intOf i).toNat)
  case atStart => exact ⟨0, by omega, rfl, by simp⟩
  case round =>
    obtain ⟨k, hk, rfl, hall⟩ := hrel
    have Hall := Lib.hid hall
    clear hall
    by_cases hlt : k < s.length
    · have hc1 := Hcell.out k hlt
      have hg1 : s.getD k 0 = s[k] := by simp [List.getD, hlt]
      rw [hg1] at hc1
      have hok : Hid (okChar s[k] = true → (s.take (k + 1)).all okChar = true) := fun h => by
        rw [List.take_succ_eq_append_getElem hlt, List.all_append, Hall.out]; simp [h]
      have hno : Hid (okChar s[k] = false → rightB s = false) := fun h => by
        unfold rightB
        have : s.all okChar = false := by
          rw [Bool.eq_false_iff]
          intro h2
          rw [List.all_eq_true.1 h2 s[k] (List.getElem_mem hlt)] at h
          cases h
        rw [this]; rfl
      have hch : Hid (okChar s[k] = ((decide (97 ≤ (s[k].toNat : Int)) && decide ((s[k].toNat : Int) ≤ 122)) || ((decide (48 ≤ (s[k].toNat : Int)) && decide ((s[k].toNat : Int) ≤ 57)) || (((s[k].toNat : Int) == 46) || ((s[k].toNat : Int) == 45))))) := by
        show _ = _
        unfold okChar
        rw [Bool.eq_iff_iff]
        simp
        omega
      have hb := s[k].toNat_lt
      generalize s[k].toNat = x at *
      clear hg1
      have hcases : (x < 45 ∨ x = 47 ∨ (58 ≤ x ∧ x ≤ 96) ∨ 123 ≤ x) ∨ (x = 45 ∨ x = 46 ∨ (48 ≤ x ∧ x ≤ 57) ∨ (97 ≤ x ∧ x ≤ 122)) := by omega
      rcases hcases with hbad | hgood
      · have hfin : rightB s = false := by
          refine hno.out ?_
          rw [hch.out]
          simp
          omega
        have Hfin := Lib.hid hfin
        have b1 : ((x : Int) == 46) = false := by rw [beq_eq_false_iff_ne]; omega
        have b2 : ((x : Int) == 45) = false := by rw [beq_eq_false_iff_ne]; omega
        clear hch hok hno hfin Hall
        rcases hbad with h1 | h1 | ⟨h1, h2⟩ | h1
        · have h1' : (x : Int) < 45 := by omega
          go_wp2
          go_ret
          exact ⟨by rw [Hfin.out]; rfl, G4.out⟩
        · subst h1
          go_wp2
          go_ret
          exact ⟨by rw [Hfin.out]; rfl, G4.out⟩
        · have h1' : (58 : Int) ≤ x := by omega
          have h2' : (x : Int) ≤ 96 := by omega
          go_wp2
          go_ret
          exact ⟨by rw [Hfin.out]; rfl, G4.out⟩
        · have h1' : (123 : Int) ≤ x := by omega
          go_wp2
          go_ret
          exact ⟨by rw [Hfin.out]; rfl, G4.out⟩
      · have hfin : (s.take (k + 1)).all okChar = true := by
          refine hok.out ?_
          rw [hch.out]
          simp
          omega
        have Hfin := Lib.hid hfin
        clear hch hok hno hfin Hall
        rcases hgood with h1 | h1 | ⟨h1, h2⟩ | ⟨h1, h2⟩
        · subst h1
          go_wp2
          go_round
          case rel => exact ⟨k + 1, by omega, by go_num, Hfin.out⟩
          case measure => simp [intOf]; omega
        · subst h1
          go_wp2
          go_round
          case rel => exact ⟨k + 1, by omega, by go_num, Hfin.out⟩
          case measure => simp [intOf]; omega
        · have h1' : (48 : Int) ≤ x := by omega
          have h2' : (x : Int) ≤ 57 := by omega
          go_wp2
          go_round
          case rel => exact ⟨k + 1, by omega, by go_num, Hfin.out⟩
          case measure => simp [intOf]; omega
        · have h1' : (97 : Int) ≤ x := by omega
          have h2' : (x : Int) ≤ 122 := by omega
          go_wp2
          go_round
          case rel => exact ⟨k + 1, by omega, by go_num, Hfin.out⟩
          case measure => simp [intOf]; omega
    · have hall : s.all okChar = true := by rw [← Hall.out, List.take_of_length_le (by omega)]
      have hr : rightB s = (decide ((1 : Int) ≤ (s.length : Int)) && decide ((s.length : Int) ≤ 24)) := by
        unfold rightB
        rw [hall, Bool.eq_iff_iff]
        simp
        omega
      have Hr := Lib.hid hr
      clear hall hr Hall
      by_cases h1 : (1 : Int) ≤ (s.length : Int)
      · by_cases h2 : (s.length : Int) ≤ 24
        · go_wp2
          go_ret
          exact ⟨by rw [Hr.out]; simp [h1, h2], G4.out⟩
        · go_wp2
          go_ret
          exact ⟨by rw [Hr.out]; simp [h1, h2], G4.out⟩
      · go_wp2
        go_ret
        exact ⟨by rw [Hr.out, decide_eq_false (show ¬ (1 : Int) ≤ (s.length : Int) by omega)]; rfl, G4.out⟩
end Go.Proofs.Ytkfokgjpeaibpaa
