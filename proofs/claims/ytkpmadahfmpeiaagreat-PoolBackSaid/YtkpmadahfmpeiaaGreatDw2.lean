/-
  A disk's inner functions: what each answers.
-/
import Derived.Test.YtkpmadahfmpeiaaGreatDi
import Derived.Deep.RegionHeld3
import Derived.Deep.RegionLaw
namespace Go.Proofs.YtkpmadahfmpeiaaGreat
open Go.RowKit
set_option maxRecDepth 100000
set_option maxHeartbeats 400000

theorem sectors_any (n : Int) (w : World) (h0 : 0 ≤ n) (h1 : n ≤ 1000000000000) : Calls Tryz.prog 113 #[.int .i64 n] w fun e w' => e = .returned (.int .i64 (sectors n.toNat)) ∧ w = w' := by
  have e : (n + 64 - 1) / 64 = ((sectors n.toNat : Nat) : Int) := by unfold sectors; omega
  have E := Lib.hid e
  clear e
  go_enter Tryz.func113, Tryz.ntmps113
  go_wp2
  go_ret
  exact ⟨by rw [E.out]; rfl, rfl⟩
section
variable {w : World} {B d : Nat} {o : Own1} {S : Dk} {c : Con}
theorem begin_nil (w : World) : Calls Tryz.prog 56 #[.pointer none] w fun e w' => e = .returned (.int .i64 2) ∧ w = w' := by
  go_enter Tryz.func56, Tryz.ntmps56
  go_wp2
  go_ret
  exact ⟨rfl, rfl⟩
theorem begin_any (h : DI w B o d S c) : Calls Tryz.prog 56 #[.pointer (some ⟨d, 0, none⟩)] w fun e w' =>
    e = .returned (.int .i64 (if S.begin.dead then 6 else 0)) ∧ DI w' B o d S.begin c ∧ w.grownBy w' (some d) := by
  have hs := h.self
  have hc := hs.cell
  have hf := hs.frozen
  have hl := h.lim
  have H := Lib.hid h
  unfold selfC at hc hs
  have HS := Lib.hid hs
  clear h hs
  obtain ⟨fs, L, nl, q, a, dd⟩ := S
  simp only at hc hl
  by_cases h0 : 0 < a
  · by_cases h1 : a = 1
    · subst h1
      have hb : Dk.begin ⟨fs, L, nl, q, 1, dd⟩ = ⟨fs, L, nl, q, 0, true⟩ := by simp [Dk.begin]
      rw [hb]
      have HB := Lib.hid (DI.numbers H.out (gr_trans (gr_setCell w ⟨d, 3, none⟩ (.int .i64 0)) (gr_setCell (w.setCell ⟨d, 3, none⟩ (.int .i64 0)) ⟨d, 4, none⟩ (.bool true)) (.inl rfl)) q 0 true (by simpa [selfC] using (HS.out.set 3 (.int .i64 0)).set 4 (.bool true)) hl.1 (by omega))
      cases dd
      all_goals
        go_enter Tryz.func56, Tryz.ntmps56
        go_wp2
        go_ret
        exact ⟨rfl, HB.out, gr_trans (gr_setCell w ⟨d, 3, none⟩ _) (gr_setCell _ ⟨d, 4, none⟩ _) (.inl rfl)⟩
    · have hb : Dk.begin ⟨fs, L, nl, q, a, dd⟩ = ⟨fs, L, nl, q, a - 1, dd⟩ := by simp [Dk.begin, h0, h1]
      rw [hb]
      have e1 : ((a - 1 : Nat) : Int) = (a : Int) - 1 := by omega
      have ne0 : ((a : Int) - 1 == 0) = false := by rw [beq_eq_false_iff_ne]; omega
      have HB := Lib.hid (DI.numbers H.out (gr_trans (gr_setCell w ⟨d, 3, none⟩ (.int .i64 ((a : Int) - 1))) (gr_setCell (w.setCell ⟨d, 3, none⟩ (.int .i64 ((a : Int) - 1))) ⟨d, 4, none⟩ (.bool dd)) (.inl rfl)) q (a - 1) dd (by rw [selfC, e1]; simpa [selfC] using (HS.out.set 3 (.int .i64 ((a : Int) - 1))).set 4 (.bool dd)) hl.1 (by omega))
      clear e1
      cases dd
      all_goals
        go_enter Tryz.func56, Tryz.ntmps56
        go_wp2
        go_ret
        exact ⟨rfl, HB.out, gr_trans (gr_setCell w ⟨d, 3, none⟩ _) (gr_setCell _ ⟨d, 4, none⟩ _) (.inl rfl)⟩
  · have hb : Dk.begin ⟨fs, L, nl, q, a, dd⟩ = ⟨fs, L, nl, q, a, dd⟩ := by simp [Dk.begin, h0]
    rw [hb]
    cases dd
    all_goals
      go_enter Tryz.func56, Tryz.ntmps56
      go_wp2
      go_ret
      exact ⟨rfl, H.out, gr_refl _ _⟩
theorem look_nil (w : World) : Calls Tryz.prog 102 #[.pointer none] w fun e w' => e = .returned (.int .i64 2) ∧ w = w' := by
  go_enter Tryz.func102, Tryz.ntmps102
  go_wp2
  go_ret
  exact ⟨rfl, rfl⟩
theorem look_any (h : DI w B o d S c) : Calls Tryz.prog 102 #[.pointer (some ⟨d, 0, none⟩)] w fun e w' => e = .returned (.int .i64 (if S.dead then 6 else 0)) ∧ w = w' := by
  have hc := h.self.cell
  unfold selfC at hc
  clear h
  cases hd : S.dead
  all_goals
    rw [hd] at hc
    have Hd := Lib.hid hd
    clear hd
    go_enter Tryz.func102, Tryz.ntmps102
    go_wp2
    go_ret
    exact ⟨rfl, rfl⟩
end

theorem right_any (s : List UInt8) (w : World) (hs : s.length ≤ 1000000000) : Calls Tryz.prog 106 #[.string ⟨s.toArray⟩] w fun e w' => e = .returned (.bool (rightB s)) ∧ w.grownBy w' none := by
  have hmx : s.length ≤ maxLen := by unfold maxLen; omega
  go_enter Tryz.func106, Tryz.ntmps106
  go_wp2_with (refine wp_bytes rfl (.tmp 5) rfl s rfl hmx ?_; rintro v4 w4 h4 g4 ⟨c4, rfl⟩)
  obtain ⟨hl, A, c, g, off, e, hn, hc, hA0, hA, hx⟩ := h4.rd
  cases e
  have hoff : off = 0 ∨ s.length = 0 := by
    rcases Nat.eq_zero_or_pos s.length with e | e
    · exact .inr e
    · have := hA (by omega); cases this; exact .inl rfl
  have hcell : ∀ k, k < s.length → w4.cell? ⟨w.heap.size, k, none⟩ = some (.int .u8 (s.getD k 0).toNat) := fun k hk => by
    have e := hA (by omega)
    cases e
    have := hx k (by omega)
    rw [Nat.zero_add] at this
    rw [this, List.getElem?_map, List.getElem?_eq_getElem hk]
    simp [u8v, List.getD, hk]
  have Hcell := Lib.hid hcell
  have G4 := Lib.hid g4
  clear hcell hA hA0 hx h4 g4 hoff hl
  go_loop [8] (fun i => ∃ k : Nat, k ≤ s.length ∧ i = .int .i64 k ∧ (s.take k).all okChar = true) (fun i => s.length - (intOf i).toNat)
  case atStart => exact ⟨0, by omega, rfl, by simp⟩
  case round =>
    obtain ⟨k, hk, rfl, hall⟩ := hrel
    have Hall := Lib.hid hall
    clear hall
    by_cases hlt : k < s.length
    · have hc1 := Hcell.out k hlt
      have hg1 : s.getD k 0 = s[k] := by simp [List.getD, hlt]
      rw [hg1] at hc1
      have hok : Hid (okChar s[k] = true → (s.take (k + 1)).all okChar = true) := fun h => by
        rw [List.take_succ_eq_append_getElem hlt, List.all_append, Hall.out]; simp [h]
      have hno : Hid (okChar s[k] = false → rightB s = false) := fun h => by
        unfold rightB
        have : s.all okChar = false := by
          rw [Bool.eq_false_iff]
          intro h2
          rw [List.all_eq_true.1 h2 s[k] (List.getElem_mem hlt)] at h
          cases h
        rw [this]; rfl
      have hch : Hid (okChar s[k] = ((decide (97 ≤ (s[k].toNat : Int)) && decide ((s[k].toNat : Int) ≤ 122)) || ((decide (48 ≤ (s[k].toNat : Int)) && decide ((s[k].toNat : Int) ≤ 57)) || (((s[k].toNat : Int) == 46) || ((s[k].toNat : Int) == 45))))) := by
        show _ = _
        unfold okChar
        rw [Bool.eq_iff_iff]
        simp
        omega
      have hb := s[k].toNat_lt
      generalize s[k].toNat = x at *
      clear hg1
      have hcases : (x < 45 ∨ x = 47 ∨ (58 ≤ x ∧ x ≤ 96) ∨ 123 ≤ x) ∨ (x = 45 ∨ x = 46 ∨ (48 ≤ x ∧ x ≤ 57) ∨ (97 ≤ x ∧ x ≤ 122)) := by omega
      rcases hcases with hbad | hgood
      · have hfin : rightB s = false := by
          refine hno.out ?_
          rw [hch.out]
          simp
          omega
        have Hfin := Lib.hid hfin
        have b1 : ((x : Int) == 46) = false := by rw [beq_eq_false_iff_ne]; omega
        have b2 : ((x : Int) == 45) = false := by rw [beq_eq_false_iff_ne]; omega
        clear hch hok hno hfin Hall
        rcases hbad with h1 | h1 | ⟨h1, h2⟩ | h1
        · have h1' : (x : Int) < 45 := by omega
          go_wp2
          go_ret
          exact ⟨by rw [Hfin.out]; rfl, G4.out⟩
        · subst h1
          go_wp2
          go_ret
          exact ⟨by rw [Hfin.out]; rfl, G4.out⟩
        · have h1' : (58 : Int) ≤ x := by omega
          have h2' : (x : Int) ≤ 96 := by omega
          go_wp2
          go_ret
          exact ⟨by rw [Hfin.out]; rfl, G4.out⟩
        · have h1' : (123 : Int) ≤ x := by omega
          go_wp2
          go_ret
          exact ⟨by rw [Hfin.out]; rfl, G4.out⟩
      · have hfin : (s.take (k + 1)).all okChar = true := by
          refine hok.out ?_
          rw [hch.out]
          simp
          omega
        have Hfin := Lib.hid hfin
        clear hch hok hno hfin Hall
        rcases hgood with h1 | h1 | ⟨h1, h2⟩ | ⟨h1, h2⟩
        · subst h1
          go_wp2
          go_round
          case rel => exact ⟨k + 1, by omega, by go_num, Hfin.out⟩
          case measure => simp [intOf]; omega
        · subst h1
          go_wp2
          go_round
          case rel => exact ⟨k + 1, by omega, by go_num, Hfin.out⟩
          case measure => simp [intOf]; omega
        · have h1' : (48 : Int) ≤ x := by omega
          have h2' : (x : Int) ≤ 57 := by omega
          go_wp2
          go_round
          case rel => exact ⟨k + 1, by omega, by go_num, Hfin.out⟩
          case measure => simp [intOf]; omega
        · have h1' : (97 : Int) ≤ x := by omega
          have h2' : (x : Int) ≤ 122 := by omega
          go_wp2
          go_round
          case rel => exact ⟨k + 1, by omega, by go_num, Hfin.out⟩
          case measure => simp [intOf]; omega
    · have hall : s.all okChar = true := by rw [← Hall.out, List.take_of_length_le (by omega)]
      have hr : rightB s = (decide ((1 : Int) ≤ (s.length : Int)) && decide ((s.length : Int) ≤ 24)) := by
        unfold rightB
        rw [hall, Bool.eq_iff_iff]
        simp
        omega
      have Hr := Lib.hid hr
      clear hall hr Hall
      by_cases h1 : (1 : Int) ≤ (s.length : Int)
      · by_cases h2 : (s.length : Int) ≤ 24
        · go_wp2
          go_ret
          exact ⟨by rw [Hr.out]; simp [h1, h2], G4.out⟩
        · go_wp2
          go_ret
          exact ⟨by rw [Hr.out]; simp [h1, h2], G4.out⟩
      · go_wp2
        go_ret
        exact ⟨by rw [Hr.out, decide_eq_false (show ¬ (1 : Int) ≤ (s.length : Int) by omega)]; rfl, G4.out⟩
end Go.Proofs.YtkpmadahfmpeiaaGreat

/- A disk's inner functions, on: find, settle, Used. -/
namespace Go.Proofs.YtkpmadahfmpeiaaGreat
open Go.RowKit
set_option maxRecDepth 100000
set_option maxHeartbeats 400000

section
variable {w : World} {B d : Nat} {o : Own1} {S : Dk} {c : Con}
theorem dom_some (c : Con) {n : List UInt8} {f : Fi} (hf : S.find n = some f) : domOf S.fs c.fb n = some (c.fb n) := by
  unfold domOf
  unfold Dk.find at hf
  rw [hf]; rfl
theorem dom_none (c : Con) {n : List UInt8} (hf : S.find n = none) : domOf S.fs c.fb n = none := by
  unfold domOf
  unfold Dk.find at hf
  rw [hf]; rfl
theorem find_bad (d : Nat) (n : List UInt8) (fine : Bool) (w : World) (hn : n.length ≤ 1000000000) (hb : rightB n = false ∨ fine = false) :
    Calls Tryz.prog 57 #[.pointer (some ⟨d, 0, none⟩), .string ⟨n.toArray⟩, .bool fine] w fun e w' => e = .returned (.tuple #[.pointer none, .int .i64 1]) ∧ w.grownBy w' none := by
  rcases hb with hb | hb
  · go_enter Tryz.func57, Tryz.ntmps57
    go_wp2_with fail
    refine (right_any n _ hn).mono ?_
    rintro e w1 ⟨rfl, g1⟩
    cases fine
    all_goals
      go_wp2
      go_ret2
      exact ⟨rfl, g1⟩
  · subst hb
    cases hr : rightB n
    all_goals
      go_enter Tryz.func57, Tryz.ntmps57
      go_wp2_with fail
      refine (right_any n _ hn).mono ?_
      rintro e w1 ⟨rfl, g1⟩
      go_wp2
      go_ret2
      exact ⟨rfl, g1⟩
theorem find_no (h : DI w B o d S c) {n : List UInt8} (hn : n.length ≤ 1000000000) (hr : rightB n = true) (hf : S.find n = none) :
    Calls Tryz.prog 57 #[.pointer (some ⟨d, 0, none⟩), .string ⟨n.toArray⟩, .bool true] w fun e w' => e = .returned (.tuple #[.pointer none, .int .i64 3]) ∧ w.grownBy w' none := by
  have H := Lib.hid h
  have hd := dom_none c hf
  have HD := Lib.hid hd
  have hmx : n.length ≤ maxLen := by unfold maxLen; omega
  clear h hd hf
  go_enter Tryz.func57, Tryz.ntmps57
  go_wp2_with fail
  refine (right_any n _ hn).mono ?_
  rintro e w1 ⟨rfl, g1⟩
  have h1 := H.out.ext g1
  have hc := h1.self.cell
  have hk := h1.fm.look hmx
  rw [HD.out] at hk
  unfold selfC at hc
  clear h1
  go_wp2
  go_ret2
  exact ⟨rfl, g1⟩
theorem find_ok (h : DI w B o d S c) {n : List UInt8} (hn : n.length ≤ 1000000000) (hr : rightB n = true) {f : Fi} (hf : S.find n = some f) :
    Calls Tryz.prog 57 #[.pointer (some ⟨d, 0, none⟩), .string ⟨n.toArray⟩, .bool true] w fun e w' => e = .returned (.tuple #[.pointer (some ⟨c.fb n, 0, none⟩), .int .i64 0]) ∧ w.grownBy w' none := by
  have H := Lib.hid h
  have hd := dom_some c hf
  have HD := Lib.hid hd
  have hmx : n.length ≤ maxLen := by unfold maxLen; omega
  clear h hd hf
  go_enter Tryz.func57, Tryz.ntmps57
  go_wp2_with fail
  refine (right_any n _ hn).mono ?_
  rintro e w1 ⟨rfl, g1⟩
  have h1 := H.out.ext g1
  have hc := h1.self.cell
  have hk := h1.fm.look hmx
  rw [HD.out] at hk
  unfold selfC at hc
  clear h1
  go_wp2
  go_ret2
  exact ⟨rfl, g1⟩
theorem all_any (n : Int) (w : World) : Calls Tryz.prog 140 #[.int .i64 n] w fun e w' => e = .returned (.bool true) ∧ w = w' := by
  go_enter Tryz.func140, Tryz.ntmps140
  go_wp2
  go_ret
  exact ⟨rfl, rfl⟩

theorem LM.congr {w : World} {m n : Nat} {L L' : List UInt8 → Int → Bool} (h : LM w m n L) (e : ∀ s k, okK s k → L s k = L' s k) : LM w m n L' := by
  obtain ⟨D, h1, h2⟩ := h
  exact ⟨D, h1, fun s k hk => (h2 s k hk).trans (e s k hk)⟩

theorem settle_hit {L left M lo : List UInt8 → Int → Bool} (h : ∀ s k, L s k = (lo s k && (left s k || !M s k))) {s0 : List UInt8} {k0 : Int} (hm : M s0 k0 = true) :
    ∀ s k, noK L s0 k0 s k = (lo s k && (noK (noK left s0 k0) s0 k0 s k || !M s k)) := by
  intro s k
  unfold noK
  rw [h]
  by_cases e : s = s0 ∧ k = k0
  · obtain ⟨rfl, rfl⟩ := e
    simp [hm]
  · have : (s == s0 && k == k0) = false := by
      rw [Bool.eq_false_iff]
      intro h
      simp only [Bool.and_eq_true, beq_iff_eq] at h
      exact e h
    rw [this]; simp
theorem settle_miss {L left M lo : List UInt8 → Int → Bool} (h : ∀ s k, L s k = (lo s k && (left s k || !M s k))) {s0 : List UInt8} {k0 : Int} (hm : M s0 k0 = false) :
    ∀ s k, L s k = (lo s k && (noK left s0 k0 s k || !M s k)) := by
  intro s k
  unfold noK
  rw [h]
  by_cases e : s = s0 ∧ k = k0
  · obtain ⟨rfl, rfl⟩ := e
    simp [hm]
  · have : (s == s0 && k == k0) = false := by
      rw [Bool.eq_false_iff]
      intro h
      simp only [Bool.and_eq_true, beq_iff_eq] at h
      exact e h
    rw [this]; simp

set_option maxHeartbeats 1000000 in
theorem settle_all (h : DI w B o d S c) (n : List UInt8) :
    Calls Tryz.prog 139 #[.pointer (some ⟨d, 0, none⟩), .string ⟨n.toArray⟩, .func (.func 140) #[] #[]] w fun e w' =>
      e = .returned (.tuple #[]) ∧ LM w' c.lb S.nl (fun s k => S.loose s k && !(s == n)) ∧ w.grownBy w' (some c.lb) := by
  have hc := h.self.cell
  have hlm := h.lm
  unfold selfC at hc
  have H := Lib.hid h
  clear h
  go_enter Tryz.func139, Tryz.ntmps139
  go_wp2_with (first | (at_range; refine wp_lm_range rfl _ rfl hlm rfl ?_; intro w0 cnt hlr g0 hz0) | go_in)
  go_frame
  clear hlm
  have HLR := Lib.hid hlr
  have G0 := Lib.hid g0
  clear hlr g0
  go_loopw [6] (fun _ wr => ∃ (L left : List UInt8 → Int → Bool) (cnt : Nat), LR wr c.lb w.heap.size S.nl L left cnt ∧ w.grownBy wr (some c.lb) ∧ Hid (∀ s k, L s k = (S.loose s k && (left s k || !(s == n))))) (fun _ wr => wr.rangeLeft c.lb w.heap.size)
  case atStart => exact ⟨_, _, _, HLR.out, gr_of_none G0.out, fun s k => by cases S.loose s k <;> simp⟩
  case round =>
    obtain ⟨L, left, cnt, hlr, hgr, hrel⟩ := hrel
    have hne : some c.lb ≠ some d := fun e => by have := H.out.tL; rw [Option.some.inj e, H.out.tD] at this; cases this
    have hcd := (H.out.self.gr hgr hne).cell
    unfold selfC at hcd
    have hlt := hlr.lt
    have hleft := hlr.left_eq
    have HL0 := Lib.hid hleft
    have HR := Lib.hid hgr
    clear hleft hgr
    go_wp2_with (first | (at_next; refine wp_lm_next rfl _ rfl hlr rfl ?_ ?_) | go_in)
    · intro h0 hl0
      have hend : Hid (LM wr c.lb S.nl (fun s k => S.loose s k && !(s == n))) := hlr.lm.congr fun s k hk => by rw [hrel.out, hl0 s k hk]; rfl
      clear hl0 hlr
      go_wp2
      go_end0
      exact ⟨rfl, hend.out, HR.out⟩
    · intro s k w2 cnt2 hok hls hlr2 hlt2 g2 hz2 hen v2
      have HLR2 := Lib.hid hlr2
      have hlt3 := hlr2.lt
      have hdr : some w.heap.size ≠ some d := fun e => by have := (H.out.inb d (by rw [H.out.tD]; simp)).2; have := Option.some.inj e; omega
      have hcd2 := ((H.out.self.gr HR.out hne).gr g2 hdr).cell
      unfold selfC at hcd2
      obtain ⟨b2, hb2⟩ : ∃ b2, (Instr.entry (.pointer (some ⟨w.heap.size, 0, none⟩))).run Tryz.prog w2 = .ok (.tuple #[.agg #[.string ⟨s.toArray⟩, .int .i64 k], .bool b2]) w2 := by rcases hen with e | e; exact ⟨_, e⟩; exact ⟨_, e⟩
      have hg2 : Hid (w.grownBy w2 (some c.lb)) := gr_trans HR.out g2 (.inr fun q e => by cases e; exact Nat.le_refl _)
      have Hok := Lib.hid hok
      clear hcd hlr hen hlr2 g2 hls hok
      have hcnt : Hid (∀ wx cx L2 l2, LR wx c.lb w.heap.size S.nl L2 l2 cx → cx ≤ cnt2 → wx.rangeLeft c.lb w.heap.size < wr.rangeLeft c.lb w.heap.size) := fun wx cx L2 l2 hx hle => by rw [hx.left_eq, HL0.out]; omega
      by_cases hsn : s = n
      · subst hsn
        go_wp2
        have HX : Hid (∀ wx, w2.grownBy wx none → LR wx c.lb w.heap.size S.nl L (noK left s k) cnt2) := fun wx hx => HLR2.out.gr hx (by simp) (by simp)
        have hdl : d < w2.heap.size := by have := (H.out.inb d (by rw [H.out.tD]; simp)).2; omega
        have hd1 : (w2.alloc (.cells #[.string ⟨s.toArray⟩, .int .i64 k] 170)).cell? ⟨d, 1, none⟩ = some (.map (some c.lb)) := (World.cell?_alloc_lt w2 _ ⟨d, 1, none⟩ hdl).trans (hcd2 1)
        clear hlt hcd2
        obtain ⟨w3, cnt3, hrun, hlr3, hle3, g3, hz3⟩ := run_lm_del (HX.out (w2.alloc (.cells #[.string ⟨s.toArray⟩, .int .i64 k] 170)).drew (gr_none (gr_alloc _ _ none) (gr_drew _ none))) Hok.out 0
        have HL3 := Lib.hid hlr3
        have G3 := Lib.hid g3
        have hrel3 := settle_hit (M := fun y _ => y == s) hrel.out (s0 := s) (k0 := k) (by simp)
        have HREL3 := Lib.hid hrel3
        clear hlr3 g3 hrel3
        go_region
        go_wp2
        go_roundw
        case rel => exact ⟨_, _, _, HL3.out, gr_trans (gr_none hg2.out (gr_none (gr_alloc _ _ none) (gr_drew _ none))) G3.out (.inl rfl), HREL3.out⟩
        case measure => exact hcnt.out _ _ _ _ HL3.out hle3
      · have HX : Hid (∀ wx, w2.grownBy wx none → LR wx c.lb w.heap.size S.nl L (noK left s k) cnt2) := fun wx hx => HLR2.out.gr hx (by simp) (by simp)
        have hrel3 := settle_miss (M := fun y _ => y == n) hrel.out (s0 := s) (k0 := k) (by simpa using hsn)
        have HREL3 := Lib.hid hrel3
        clear hrel3
        go_wp2
        go_roundw
        case rel => exact ⟨_, _, _, HX.out _ (gr_alloc _ _ none), gr_none hg2.out (gr_alloc _ _ none), HREL3.out⟩
        case measure => exact hcnt.out _ _ _ _ (HX.out _ (gr_alloc _ _ none)) (Nat.le_refl _)

set_option maxHeartbeats 1000000 in
theorem settle_cut (h : DI w B o d S c) (n : List UInt8) (z x : Nat) (hx : Blk w x 3 #[.int .i64 z]) (hxl : x ≠ c.lb) (hz : z ≤ 16777216):
    Calls Tryz.prog 139 #[.pointer (some ⟨d, 0, none⟩), .string ⟨n.toArray⟩, .func (.func 145) #[] #[.pointer (some ⟨x, 0, none⟩)]] w fun e w' =>
      e = .returned (.tuple #[]) ∧ LM w' c.lb S.nl (fun s k => S.loose s k && !(s == n && decide (((sectors z : Nat) : Int) ≤ k))) ∧ w.grownBy w' (some c.lb) := by
  have hc := h.self.cell
  have hlm := h.lm
  unfold selfC at hc
  have H := Lib.hid h
  clear h
  have HBX := Lib.hid hx
  have hxw : x < w.heap.size := hx.lt
  have hsz : (Int.toNat (z : Int)) = z := by omega
  clear hx
  go_enter Tryz.func139, Tryz.ntmps139
  go_wp2_with (first | (at_range; refine wp_lm_range rfl _ rfl hlm rfl ?_; intro w0 cnt hlr g0 hz0) | go_in)
  go_frame
  clear hlm
  have HLR := Lib.hid hlr
  have G0 := Lib.hid g0
  clear hlr g0
  go_loopw [6] (fun _ wr => ∃ (L left : List UInt8 → Int → Bool) (cnt : Nat), LR wr c.lb w.heap.size S.nl L left cnt ∧ w.grownBy wr (some c.lb) ∧ Hid (∀ s k, L s k = (S.loose s k && (left s k || !(s == n && decide (((sectors z : Nat) : Int) ≤ k)))))) (fun _ wr => wr.rangeLeft c.lb w.heap.size)
  case atStart => exact ⟨_, _, _, HLR.out, gr_of_none G0.out, fun s k => by cases S.loose s k <;> simp⟩
  case round =>
    obtain ⟨L, left, cnt, hlr, hgr, hrel⟩ := hrel
    have hne : some c.lb ≠ some d := fun e => by have := H.out.tL; rw [Option.some.inj e, H.out.tD] at this; cases this
    have hcd := (H.out.self.gr hgr hne).cell
    unfold selfC at hcd
    have hlt := hlr.lt
    have hleft := hlr.left_eq
    have HL0 := Lib.hid hleft
    have HR := Lib.hid hgr
    clear hleft hgr
    go_wp2_with (first | (at_next; refine wp_lm_next rfl _ rfl hlr rfl ?_ ?_) | go_in)
    · intro h0 hl0
      have hend : Hid (LM wr c.lb S.nl (fun s k => S.loose s k && !(s == n && decide (((sectors z : Nat) : Int) ≤ k)))) := hlr.lm.congr fun s k hk => by rw [hrel.out, hl0 s k hk]; rfl
      clear hl0 hlr
      go_wp2
      go_end0
      exact ⟨rfl, hend.out, HR.out⟩
    · intro s k w2 cnt2 hok hls hlr2 hlt2 g2 hz2 hen v2
      have HLR2 := Lib.hid hlr2
      have hlt3 := hlr2.lt
      have hdr : some w.heap.size ≠ some d := fun e => by have := (H.out.inb d (by rw [H.out.tD]; simp)).2; have := Option.some.inj e; omega
      have hcd2 := ((H.out.self.gr HR.out hne).gr g2 hdr).cell
      unfold selfC at hcd2
      obtain ⟨b2, hb2⟩ : ∃ b2, (Instr.entry (.pointer (some ⟨w.heap.size, 0, none⟩))).run Tryz.prog w2 = .ok (.tuple #[.agg #[.string ⟨s.toArray⟩, .int .i64 k], .bool b2]) w2 := by rcases hen with e | e; exact ⟨_, e⟩; exact ⟨_, e⟩
      have hg2 : Hid (w.grownBy w2 (some c.lb)) := gr_trans HR.out g2 (.inr fun q e => by cases e; exact Nat.le_refl _)
      have Hok := Lib.hid hok
      have hbox : w2.cell? ⟨x, 0, none⟩ = some (.int .i64 z) := ((HBX.out.gr HR.out (fun e => hxl (Option.some.inj e).symm)).gr g2 (fun e => by have := Option.some.inj e; omega)).cell 0
      have hboxA : (w2.alloc (.cells #[.string ⟨s.toArray⟩, .int .i64 k] 170)).cell? ⟨x, 0, none⟩ = some (.int .i64 z) := (World.cell?_alloc_lt w2 _ ⟨x, 0, none⟩ (by simp; omega)).trans hbox
      clear hcd hlr hen hlr2 g2 hls hok
      have hcnt : Hid (∀ wx cx L2 l2, LR wx c.lb w.heap.size S.nl L2 l2 cx → cx ≤ cnt2 → wx.rangeLeft c.lb w.heap.size < wr.rangeLeft c.lb w.heap.size) := fun wx cx L2 l2 hx hle => by rw [hx.left_eq, HL0.out]; omega
      by_cases hsn : s = n
      · subst hsn
        by_cases hsk : ((sectors z : Nat) : Int) ≤ k
        · go_wp2_with (first | (go_at_call 113; refine (sectors_any _ _ (by omega) (by omega)).mono ?_; rintro e w9 ⟨rfl, rfl⟩; rw [Int.toNat_natCast]) | go_in)
          have HX : Hid (∀ wx, w2.grownBy wx none → LR wx c.lb w.heap.size S.nl L (noK left s k) cnt2) := fun wx hx => HLR2.out.gr hx (by simp) (by simp)
          have hdl : d < w2.heap.size := by have := (H.out.inb d (by rw [H.out.tD]; simp)).2; omega
          have hd1 : (w2.alloc (.cells #[.string ⟨s.toArray⟩, .int .i64 k] 170)).cell? ⟨d, 1, none⟩ = some (.map (some c.lb)) := (World.cell?_alloc_lt w2 _ ⟨d, 1, none⟩ hdl).trans (hcd2 1)
          clear hlt hcd2
          obtain ⟨w3, cnt3, hrun, hlr3, hle3, g3, hz3⟩ := run_lm_del (HX.out (w2.alloc (.cells #[.string ⟨s.toArray⟩, .int .i64 k] 170)).drew (gr_none (gr_alloc _ _ none) (gr_drew _ none))) Hok.out 0
          have HL3 := Lib.hid hlr3
          have G3 := Lib.hid g3
          have hrel3 := settle_hit (M := fun y j => y == s && decide (((sectors z : Nat) : Int) ≤ j)) hrel.out (s0 := s) (k0 := k) (by simpa using hsk)
          have HREL3 := Lib.hid hrel3
          clear hlr3 g3 hrel3
          go_region
          go_wp2
          go_roundw
          case rel => exact ⟨_, _, _, HL3.out, gr_trans (gr_none hg2.out (gr_none (gr_alloc _ _ none) (gr_drew _ none))) G3.out (.inl rfl), HREL3.out⟩
          case measure => exact hcnt.out _ _ _ _ HL3.out hle3
        · have HX : Hid (∀ wx, w2.grownBy wx none → LR wx c.lb w.heap.size S.nl L (noK left s k) cnt2) := fun wx hx => HLR2.out.gr hx (by simp) (by simp)
          have hrel3 := settle_miss (M := fun y j => y == s && decide (((sectors z : Nat) : Int) ≤ j)) hrel.out (s0 := s) (k0 := k) (by simpa using hsk)
          have HREL3 := Lib.hid hrel3
          clear hrel3
          go_wp2_with (first | (go_at_call 113; refine (sectors_any _ _ (by omega) (by omega)).mono ?_; rintro e w9 ⟨rfl, rfl⟩; rw [Int.toNat_natCast]) | go_in)
          go_roundw
          case rel => exact ⟨_, _, _, HX.out _ (gr_alloc _ _ none), gr_none hg2.out (gr_alloc _ _ none), HREL3.out⟩
          case measure => exact hcnt.out _ _ _ _ (HX.out _ (gr_alloc _ _ none)) (Nat.le_refl _)
      · have HX : Hid (∀ wx, w2.grownBy wx none → LR wx c.lb w.heap.size S.nl L (noK left s k) cnt2) := fun wx hx => HLR2.out.gr hx (by simp) (by simp)
        have hrel3 := settle_miss (M := fun y j => y == n && decide (((sectors z : Nat) : Int) ≤ j)) hrel.out (s0 := s) (k0 := k) (by simp [hsn])
        have HREL3 := Lib.hid hrel3
        clear hrel3
        go_wp2
        go_roundw
        case rel => exact ⟨_, _, _, HX.out _ (gr_alloc _ _ none), gr_none hg2.out (gr_alloc _ _ none), HREL3.out⟩
        case measure => exact hcnt.out _ _ _ _ (HX.out _ (gr_alloc _ _ none)) (Nat.le_refl _)
end
end Go.Proofs.YtkpmadahfmpeiaaGreat
