/-
  A disk's inner functions, on: find, settle, Used.
-/
import Derived.Test.YthkajgangnmbdaaDw1
import Derived.Deep.RegionHeld3
import Derived.Deep.RegionLaw
namespace Go.Proofs.Ythkajgangnmbdaa
open Go.RowKit
set_option maxRecDepth 100000
set_option maxHeartbeats 400000

section
variable {w : World} {B d : Nat} {o : Own1} {S : Dk} {c : Con}
theorem dom_some (c : Con) {n : List UInt8} {f : Fi} (hf : S.find n = some f) : domOf S.fs c.fb n = some (c.fb n) := by
  unfold domOf
  unfold Dk.find at hf
  rw [hf]; rfl
theorem dom_none (c : Con) {n : List UInt8} (hf : S.find n = none) : domOf S.fs c.fb n = none := by
  unfold domOf
  unfold Dk.find at hf
  rw [hf]; rfl
theorem find_bad (d : Nat) (n : List UInt8) (fine : Bool) (w : World) (hn : n.length ≤ 1000000000) (hb : rightB n = false ∨ fine = false) :
    Calls Try.prog 19 #[.pointer (some ⟨d, 0, none⟩), .string ⟨n.toArray⟩, .bool fine] w fun e w' => e = .returned (.tuple #[.pointer none, .int .i64 1]) ∧ w.grownBy w' none := by
  rcases hb with hb | hb
  · go_enter Try.func19, Try.ntmps19
    go_wp2_with fail
    refine (right_any n _ hn).mono ?_
    rintro e w1 ⟨rfl, g1⟩
    cases fine
    all_goals
      go_wp2
      go_ret2
      exact ⟨rfl, g1⟩
  · subst hb
    cases hr : rightB n
    all_goals
      go_enter Try.func19, Try.ntmps19
      go_wp2_with fail
      refine (right_any n _ hn).mono ?_
      rintro e w1 ⟨rfl, g1⟩
      go_wp2
      go_ret2
      exact ⟨rfl, g1⟩
theorem find_no (h : DI w B o d S c) {n : List UInt8} (hn : n.length ≤ 1000000000) (hr : rightB n = true) (hf : S.find n = none) :
    Calls Try.prog 19 #[.pointer (some ⟨d, 0, none⟩), .string ⟨n.toArray⟩, .bool true] w fun e w' => e = .returned (.tuple #[.pointer none, .int .i64 3]) ∧ w.grownBy w' none := by
  have H := Lib.hid h
  have hd := dom_none c hf
  have HD := Lib.hid hd
  have hmx : n.length ≤ maxLen := by unfold maxLen; omega
  clear h hd hf
  go_enter Try.func19, Try.ntmps19
  go_wp2_with fail
  refine (right_any n _ hn).mono ?_
  rintro e w1 ⟨rfl, g1⟩
  have h1 := H.out.ext g1
  have hc := h1.self.cell
  have hk := h1.fm.look hmx
  rw [HD.out] at hk
  unfold selfC at hc
  clear h1
  go_wp2
  go_ret2
  exact ⟨rfl, g1⟩
theorem find_ok (h : DI w B o d S c) {n : List UInt8} (hn : n.length ≤ 1000000000) (hr : rightB n = true) {f : Fi} (hf : S.find n = some f) :
    Calls Try.prog 19 #[.pointer (some ⟨d, 0, none⟩), .string ⟨n.toArray⟩, .bool true] w fun e w' => e = .returned (.tuple #[.pointer (some ⟨c.fb n, 0, none⟩), .int .i64 0]) ∧ w.grownBy w' none := by
  have H := Lib.hid h
  have hd := dom_some c hf
  have HD := Lib.hid hd
  have hmx : n.length ≤ maxLen := by unfold maxLen; omega
  clear h hd hf
  go_enter Try.func19, Try.ntmps19
  go_wp2_with fail
  refine (right_any n _ hn).mono ?_
  rintro e w1 ⟨rfl, g1⟩
  have h1 := H.out.ext g1
  have hc := h1.self.cell
  have hk := h1.fm.look hmx
  rw [HD.out] at hk
  unfold selfC at hc
  clear h1
  go_wp2
  go_ret2
  exact ⟨rfl, g1⟩
theorem all_any (n : Int) (w : World) : Calls Try.prog 23 #[.int .i64 n] w fun e w' => e = .returned (.bool true) ∧ w = w' := by
  go_enter Try.func23, Try.ntmps23
  go_wp2
  go_ret
  exact ⟨rfl, rfl⟩

theorem LM.congr {w : World} {m n : Nat} {L L' : List UInt8 → Int → Bool} (h : LM w m n L) (e : ∀ s k, okK s k → L s k = L' s k) : LM w m n L' := by
  obtain ⟨D, h1, h2⟩ := h
  exact ⟨D, h1, fun s k hk => (h2 s k hk).trans (e s k hk)⟩

theorem settle_hit {L left M lo : List UInt8 → Int → Bool} (h : ∀ s k, L s k = (lo s k && (left s k || !M s k))) {s0 : List UInt8} {k0 : Int} (hm : M s0 k0 = true) :
    ∀ s k, noK L s0 k0 s k = (lo s k && (noK (noK left s0 k0) s0 k0 s k || !M s k)) := by
  intro s k
  unfold noK
  rw [h]
  by_cases e : s = s0 ∧ k = k0
  · obtain ⟨rfl, rfl⟩ := e
    simp [hm]
  · have : (s == s0 && k == k0) = false := by
      rw [Bool.eq_false_iff]
      intro h
      simp only [Bool.and_eq_true, beq_iff_eq] at h
      exact e h
    rw [this]; simp
theorem settle_miss {L left M lo : List UInt8 → Int → Bool} (h : ∀ s k, L s k = (lo s k && (left s k || !M s k))) {s0 : List UInt8} {k0 : Int} (hm : M s0 k0 = false) :
    ∀ s k, L s k = (lo s k && (noK left s0 k0 s k || !M s k)) := by
  intro s k
  unfold noK
  rw [h]
  by_cases e : s = s0 ∧ k = k0
  · obtain ⟨rfl, rfl⟩ := e
    simp [hm]
  · have : (s == s0 && k == k0) = false := by
      rw [Bool.eq_false_iff]
      intro h
      simp only [Bool.and_eq_true, beq_iff_eq] at h
      exact e h
    rw [this]; simp

set_option maxHeartbeats 1000000 in
theorem settle_all (h : DI w B o d S c) (n : List UInt8) :
    Calls Try.prog 22 #[.pointer (some ⟨d, 0, none⟩), .string ⟨n.toArray⟩, .func (.func 23) #[] #[]] w fun e w' =>
      e = .returned (.tuple #[]) ∧ LM w' c.lb S.nl (fun s k => S.loose s k && !(s == n)) ∧ w.grownBy w' (some c.lb) := by
  have hc := h.self.cell
  have hlm := h.lm
  unfold selfC at hc
  have H := Lib.hid h
  clear h
  go_enter Try.func22, Try.ntmps22
  go_wp2_with (first | (at_range; refine wp_lm_range rfl _ rfl hlm rfl ?_; intro w0 cnt hlr g0 hz0) | go_in)
  go_frame
  clear hlm
  have HLR := Lib.hid hlr
  have G0 := Lib.hid g0
  clear hlr g0
  go_loopw [6] (fun _ wr => ∃ (L left : List UInt8 → Int → Bool) (cnt : Nat), LR wr c.lb w.heap.size S.nl L left cnt ∧ w.grownBy wr (some c.lb) ∧ Hid (∀ s k, L s k = (S.loose s k && (left s k || !(s == n))))) (fun _ wr => wr.rangeLeft c.lb w.heap.size)
  case atStart => exact ⟨_, _, _, HLR.out, gr_of_none G0.out, fun s k => by cases S.loose s k <;> simp⟩
  case round =>
    obtain ⟨L, left, cnt, hlr, hgr, hrel⟩ := hrel
    have hne : some c.lb ≠ some d := fun e => by have := H.out.tL; rw [Option.some.inj e, H.out.tD] at this; cases this
    have hcd := (H.out.self.gr hgr hne).cell
    unfold selfC at hcd
    have hlt := hlr.lt
    have hleft := hlr.left_eq
    have HL0 := Lib.hid hleft
    have HR := Lib.hid hgr
    clear hleft hgr
    go_wp2_with (first | (at_next; refine wp_lm_next rfl _ rfl hlr rfl ?_ ?_) | go_in)
    · intro h0 hl0
      have hend : Hid (LM wr c.lb S.nl (fun s k => S.loose s k && !(s == n))) := hlr.lm.congr fun s k hk => by rw [hrel.out, hl0 s k hk]; rfl
      clear hl0 hlr
      go_wp2
      go_end0
      exact ⟨rfl, hend.out, HR.out⟩
    · intro s k w2 cnt2 hok hls hlr2 hlt2 g2 hz2 hen v2
      have HLR2 := Lib.hid hlr2
      have hlt3 := hlr2.lt
      have hdr : some w.heap.size ≠ some d := fun e => by have := (H.out.inb d (by rw [H.out.tD]; simp)).2; have := Option.some.inj e; omega
      have hcd2 := ((H.out.self.gr HR.out hne).gr g2 hdr).cell
      unfold selfC at hcd2
      obtain ⟨b2, hb2⟩ : ∃ b2, (Instr.entry (.pointer (some ⟨w.heap.size, 0, none⟩))).run Try.prog w2 = .ok (.tuple #[.agg #[.string ⟨s.toArray⟩, .int .i64 k], .bool b2]) w2 := by rcases hen with e | e; exact ⟨_, e⟩; exact ⟨_, e⟩
      have hg2 : Hid (w.grownBy w2 (some c.lb)) := gr_trans HR.out g2 (.inr fun q e => by cases e; exact Nat.le_refl _)
      have Hok := Lib.hid hok
      clear hcd hlr hen hlr2 g2 hls hok
      have hcnt : Hid (∀ wx cx L2 l2, LR wx c.lb w.heap.size S.nl L2 l2 cx → cx ≤ cnt2 → wx.rangeLeft c.lb w.heap.size < wr.rangeLeft c.lb w.heap.size) := fun wx cx L2 l2 hx hle => by rw [hx.left_eq, HL0.out]; omega
      by_cases hsn : s = n
      · subst hsn
        go_wp2
        have HX : Hid (∀ wx, w2.grownBy wx none → LR wx c.lb w.heap.size S.nl L (noK left s k) cnt2) := fun wx hx => HLR2.out.gr hx (by simp) (by simp)
        have hdl : d < w2.heap.size := by have := (H.out.inb d (by rw [H.out.tD]; simp)).2; omega
        have hd1 : (w2.alloc (.cells #[.string ⟨s.toArray⟩, .int .i64 k] 55)).cell? ⟨d, 1, none⟩ = some (.map (some c.lb)) := (World.cell?_alloc_lt w2 _ ⟨d, 1, none⟩ hdl).trans (hcd2 1)
        clear hlt hcd2
        obtain ⟨w3, cnt3, hrun, hlr3, hle3, g3, hz3⟩ := run_lm_del (HX.out (w2.alloc (.cells #[.string ⟨s.toArray⟩, .int .i64 k] 55)).drew (gr_none (gr_alloc _ _ none) (gr_drew _ none))) Hok.out 0
        have HL3 := Lib.hid hlr3
        have G3 := Lib.hid g3
        have hrel3 := settle_hit (M := fun y _ => y == s) hrel.out (s0 := s) (k0 := k) (by simp)
        have HREL3 := Lib.hid hrel3
        clear hlr3 g3 hrel3
        go_region
        go_wp2
        go_roundw
        case rel => exact ⟨_, _, _, HL3.out, gr_trans (gr_none hg2.out (gr_none (gr_alloc _ _ none) (gr_drew _ none))) G3.out (.inl rfl), HREL3.out⟩
        case measure => exact hcnt.out _ _ _ _ HL3.out hle3
      · have HX : Hid (∀ wx, w2.grownBy wx none → LR wx c.lb w.heap.size S.nl L (noK left s k) cnt2) := fun wx hx => HLR2.out.gr hx (by simp) (by simp)
        have hrel3 := settle_miss (M := fun y _ => y == n) hrel.out (s0 := s) (k0 := k) (by simpa using hsn)
        have HREL3 := Lib.hid hrel3
        clear hrel3
        go_wp2
        go_roundw
        case rel => exact ⟨_, _, _, HX.out _ (gr_alloc _ _ none), gr_none hg2.out (gr_alloc _ _ none), HREL3.out⟩
        case measure => exact hcnt.out _ _ _ _ (HX.out _ (gr_alloc _ _ none)) (Nat.le_refl _)

end
end Go.Proofs.Ythkajgangnmbdaa
