/-
  A disk's inner functions, on: find, settle, Used.
-/
import Derived.Test.YtipankjajdpiiaaGreatDw1
import Derived.Deep.RegionHeld3
import Derived.Deep.RegionLaw
import Derived.Test.YtipankjajdpiiaaGreatOct
namespace Go.Proofs.YtipankjajdpiiaaGreat
open Go.RowKit
set_option maxRecDepth 100000
set_option maxHeartbeats 400000

section
variable {w : World} {B d : Nat} {o : Own1} {S : Dk} {c : Con}
theorem dom_some (c : Con) {n : List UInt8} {f : Fi} (hf : S.find n = some f) : domOf S.fs c.fb n = some (c.fb n) := by
  unfold domOf
  unfold Dk.find at hf
  rw [hf]; rfl
theorem dom_none (c : Con) {n : List UInt8} (hf : S.find n = none) : domOf S.fs c.fb n = none := by
  unfold domOf
  unfold Dk.find at hf
  rw [hf]; rfl
theorem find_bad (d : Nat) (n : List UInt8) (fine : Bool) (w : World) (hn : n.length ≤ 1000000000) (hb : rightB n = false ∨ fine = false) :
    Calls Tryz.prog 74 #[.pointer (some ⟨d, 0, none⟩), .string ⟨n.toArray⟩, .bool fine] w fun e w' => e = .returned (.tuple #[.pointer none, .int .i64 1]) ∧ w.grownBy w' none := by
  rcases hb with hb | hb
  · go_enter Tryz.func74, Tryz.ntmps74
    go_wp2_with fail
    refine (right_any n _ hn).mono ?_
    rintro e w1 ⟨rfl, g1⟩
    cases fine
    all_goals
      go_wp2
      go_ret2
      exact ⟨rfl, g1⟩
  · subst hb
    cases hr : rightB n
    all_goals
      go_enter Tryz.func74, Tryz.ntmps74
      go_wp2_with fail
      refine (right_any n _ hn).mono ?_
      rintro e w1 ⟨rfl, g1⟩
      go_wp2
      go_ret2
      exact ⟨rfl, g1⟩
theorem find_no (h : DI w B o d S c) {n : List UInt8} (hn : n.length ≤ 1000000000) (hr : rightB n = true) (hf : S.find n = none) :
    Calls Tryz.prog 74 #[.pointer (some ⟨d, 0, none⟩), .string ⟨n.toArray⟩, .bool true] w fun e w' => e = .returned (.tuple #[.pointer none, .int .i64 3]) ∧ w.grownBy w' none := by
  have H := Lib.hid h
  have hd := dom_none c hf
  have HD := Lib.hid hd
  have hmx : n.length ≤ maxLen := by unfold maxLen; omega
  clear h hd hf
  go_enter Tryz.func74, Tryz.ntmps74
  go_wp2_with fail
  refine (right_any n _ hn).mono ?_
  rintro e w1 ⟨rfl, g1⟩
  have h1 := H.out.ext g1
  have hc := h1.self.cell
  have hk := h1.fm.look hmx
  rw [HD.out] at hk
  unfold selfC at hc
  clear h1
  go_wp2
  go_ret2
  exact ⟨rfl, g1⟩
theorem find_ok (h : DI w B o d S c) {n : List UInt8} (hn : n.length ≤ 1000000000) (hr : rightB n = true) {f : Fi} (hf : S.find n = some f) :
    Calls Tryz.prog 74 #[.pointer (some ⟨d, 0, none⟩), .string ⟨n.toArray⟩, .bool true] w fun e w' => e = .returned (.tuple #[.pointer (some ⟨c.fb n, 0, none⟩), .int .i64 0]) ∧ w.grownBy w' none := by
  have H := Lib.hid h
  have hd := dom_some c hf
  have HD := Lib.hid hd
  have hmx : n.length ≤ maxLen := by unfold maxLen; omega
  clear h hd hf
  go_enter Tryz.func74, Tryz.ntmps74
  go_wp2_with fail
  refine (right_any n _ hn).mono ?_
  rintro e w1 ⟨rfl, g1⟩
  have h1 := H.out.ext g1
  have hc := h1.self.cell
  have hk := h1.fm.look hmx
  rw [HD.out] at hk
  unfold selfC at hc
  clear h1
  go_wp2
  go_ret2
  exact ⟨rfl, g1⟩
theorem all_any (n : Int) (w : World) : Calls Tryz.prog 105 #[.int .i64 n] w fun e w' => e = .returned (.bool true) ∧ w = w' := by
  go_enter Tryz.func105, Tryz.ntmps105
  go_wp2
  go_ret
  exact ⟨rfl, rfl⟩

theorem LM.congr {w : World} {m n : Nat} {L L' : List UInt8 → Int → Bool} (h : LM w m n L) (e : ∀ s k, okK s k → L s k = L' s k) : LM w m n L' := by
  obtain ⟨D, h1, h2⟩ := h
  exact ⟨D, h1, fun s k hk => (h2 s k hk).trans (e s k hk)⟩

theorem settle_hit {L left M lo : List UInt8 → Int → Bool} (h : ∀ s k, L s k = (lo s k && (left s k || !M s k))) {s0 : List UInt8} {k0 : Int} (hm : M s0 k0 = true) :
    ∀ s k, noK L s0 k0 s k = (lo s k && (noK (noK left s0 k0) s0 k0 s k || !M s k)) := by
  intro s k
  unfold noK
  rw [h]
  by_cases e : s = s0 ∧ k = k0
  · obtain ⟨rfl, rfl⟩ := e
    simp [hm]
  · have : (s == s0 && k == k0) = false := by
      rw [Bool.eq_false_iff]
      intro h
      simp only [Bool.and_eq_true, beq_iff_eq] at h
      exact e h
    rw [this]; simp
theorem settle_miss {L left M lo : List UInt8 → Int → Bool} (h : ∀ s k, L s k = (lo s k && (left s k || !M s k))) {s0 : List UInt8} {k0 : Int} (hm : M s0 k0 = false) :
    ∀ s k, L s k = (lo s k && (noK left s0 k0 s k || !M s k)) := by
  intro s k
  unfold noK
  rw [h]
  by_cases e : s = s0 ∧ k = k0
  · obtain ⟨rfl, rfl⟩ := e
    simp [hm]
  · have : (s == s0 && k == k0) = false := by
      rw [Bool.eq_false_iff]
      intro h
      simp only [Bool.and_eq_true, beq_iff_eq] at h
      exact e h
    rw [this]; simp

set_option maxHeartbeats 1000000 in
theorem settle_all (h : DI w B o d S c) (n : List UInt8) :
    Calls Tryz.prog 103 #[.pointer (some ⟨d, 0, none⟩), .string ⟨n.toArray⟩, .func (.func 105) #[] #[]] w fun e w' =>
      e = .returned (.tuple #[]) ∧ LM w' c.lb S.nl (fun s k => S.loose s k && !(s == n)) ∧ w.grownBy w' (some c.lb) := by
  have hc := h.self.cell
  have hlm := h.lm
  unfold selfC at hc
  have H := Lib.hid h
  clear h
  go_enter Tryz.func103, Tryz.ntmps103
  go_wp2_with (first | (at_range; refine wp_lm_range rfl _ rfl hlm rfl ?_; intro w0 cnt hlr g0 hz0) | go_in)
  go_frame
  clear hlm
  have HLR := Lib.hid hlr
  have G0 := Lib.hid g0
  clear hlr g0
  go_loopw [6] (fun _ wr => ∃ (L left : List UInt8 → Int → Bool) (cnt : Nat), LR wr c.lb w.heap.size S.nl L left cnt ∧ w.grownBy wr (some c.lb) ∧ Hid (∀ s k, L s k = (S.loose s k && (left s k || !(s == n))))) (fun _ wr => wr.rangeLeft c.lb w.heap.size)
  case atStart => exact ⟨_, _, _, HLR.out, gr_of_none G0.out, fun s k => by cases S.loose s k <;> simp⟩
  case round =>
    obtain ⟨L, left, cnt, hlr, hgr, hrel⟩ := hrel
    have hne : some c.lb ≠ some d := fun e => by have := H.out.tL; rw [Option.some.inj e, H.out.tD] at this; cases this
    have hcd := (H.out.self.gr hgr hne).cell
    unfold selfC at hcd
    have hlt := hlr.lt
    have hleft := hlr.left_eq
    have HL0 := Lib.hid hleft
    have HR := Lib.hid hgr
    clear hleft hgr
    go_wp2_with (first | (at_next; refine wp_lm_next rfl _ rfl hlr rfl ?_ ?_) | go_in)
    · intro h0 hl0
      have hend : Hid (LM wr c.lb S.nl (fun s k => S.loose s k && !(s == n))) := hlr.lm.congr fun s k hk => by rw [hrel.out, hl0 s k hk]; rfl
      clear hl0 hlr
      go_wp2
      go_end0
      exact ⟨rfl, hend.out, HR.out⟩
    · intro s k w2 cnt2 hok hls hlr2 hlt2 g2 hz2 hen v2
      have HLR2 := Lib.hid hlr2
      have hlt3 := hlr2.lt
      have hdr : some w.heap.size ≠ some d := fun e => by have := (H.out.inb d (by rw [H.out.tD]; simp)).2; have := Option.some.inj e; omega
      have hcd2 := ((H.out.self.gr HR.out hne).gr g2 hdr).cell
      unfold selfC at hcd2
      obtain ⟨b2, hb2⟩ : ∃ b2, (Instr.entry (.pointer (some ⟨w.heap.size, 0, none⟩))).run Tryz.prog w2 = .ok (.tuple #[.agg #[.string ⟨s.toArray⟩, .int .i64 k], .bool b2]) w2 := by rcases hen with e | e; exact ⟨_, e⟩; exact ⟨_, e⟩
      have hg2 : Hid (w.grownBy w2 (some c.lb)) := gr_trans HR.out g2 (.inr fun q e => by cases e; exact Nat.le_refl _)
      have Hok := Lib.hid hok
      clear hcd hlr hen hlr2 g2 hls hok
      have hcnt : Hid (∀ wx cx L2 l2, LR wx c.lb w.heap.size S.nl L2 l2 cx → cx ≤ cnt2 → wx.rangeLeft c.lb w.heap.size < wr.rangeLeft c.lb w.heap.size) := fun wx cx L2 l2 hx hle => by rw [hx.left_eq, HL0.out]; omega
      by_cases hsn : s = n
      · subst hsn
        go_wp2
        have HX : Hid (∀ wx, w2.grownBy wx none → LR wx c.lb w.heap.size S.nl L (noK left s k) cnt2) := fun wx hx => HLR2.out.gr hx (by simp) (by simp)
        have hdl : d < w2.heap.size := by have := (H.out.inb d (by rw [H.out.tD]; simp)).2; omega
        have hd1 : (w2.alloc (.cells #[.string ⟨s.toArray⟩, .int .i64 k] 137)).cell? ⟨d, 1, none⟩ = some (.map (some c.lb)) := (World.cell?_alloc_lt w2 _ ⟨d, 1, none⟩ hdl).trans (hcd2 1)
        clear hlt hcd2
        obtain ⟨w3, cnt3, hrun, hlr3, hle3, g3, hz3⟩ := run_lm_del (HX.out (w2.alloc (.cells #[.string ⟨s.toArray⟩, .int .i64 k] 137)).drew (gr_none (gr_alloc _ _ none) (gr_drew _ none))) Hok.out 0
        have HL3 := Lib.hid hlr3
        have G3 := Lib.hid g3
        have hrel3 := settle_hit (M := fun y _ => y == s) hrel.out (s0 := s) (k0 := k) (by simp)
        have HREL3 := Lib.hid hrel3
        clear hlr3 g3 hrel3
        go_region
        go_wp2
        go_roundw
        case rel => exact ⟨_, _, _, HL3.out, gr_trans (gr_none hg2.out (gr_none (gr_alloc _ _ none) (gr_drew _ none))) G3.out (.inl rfl), HREL3.out⟩
        case measure => exact hcnt.out _ _ _ _ HL3.out hle3
      · have HX : Hid (∀ wx, w2.grownBy wx none → LR wx c.lb w.heap.size S.nl L (noK left s k) cnt2) := fun wx hx => HLR2.out.gr hx (by simp) (by simp)
        have hrel3 := settle_miss (M := fun y _ => y == n) hrel.out (s0 := s) (k0 := k) (by simpa using hsn)
        have HREL3 := Lib.hid hrel3
        clear hrel3
        go_wp2
        go_roundw
        case rel => exact ⟨_, _, _, HX.out _ (gr_alloc _ _ none), gr_none hg2.out (gr_alloc _ _ none), HREL3.out⟩
        case measure => exact hcnt.out _ _ _ _ (HX.out _ (gr_alloc _ _ none)) (Nat.le_refl _)

set_option maxHeartbeats 1000000 in
theorem settle_cut (h : DI w B o d S c) (n : List UInt8) (z x : Nat) (hx : Blk w x 3 #[.int .i64 z]) (hxl : x ≠ c.lb) (hz : z ≤ 16777216):
    Calls Tryz.prog 103 #[.pointer (some ⟨d, 0, none⟩), .string ⟨n.toArray⟩, .func (.func 104) #[] #[.pointer (some ⟨x, 0, none⟩)]] w fun e w' =>
      e = .returned (.tuple #[]) ∧ LM w' c.lb S.nl (fun s k => S.loose s k && !(s == n && decide (((sectors z : Nat) : Int) ≤ k))) ∧ w.grownBy w' (some c.lb) := by
  have hc := h.self.cell
  have hlm := h.lm
  unfold selfC at hc
  have H := Lib.hid h
  clear h
  have HBX := Lib.hid hx
  have hxw : x < w.heap.size := hx.lt
  have hsz : (Int.toNat (z : Int)) = z := by omega
  clear hx
  go_enter Tryz.func103, Tryz.ntmps103
  go_wp2_with (first | (at_range; refine wp_lm_range rfl _ rfl hlm rfl ?_; intro w0 cnt hlr g0 hz0) | go_in)
  go_frame
  clear hlm
  have HLR := Lib.hid hlr
  have G0 := Lib.hid g0
  clear hlr g0
  go_loopw [6] (fun _ wr => ∃ (L left : List UInt8 → Int → Bool) (cnt : Nat), LR wr c.lb w.heap.size S.nl L left cnt ∧ w.grownBy wr (some c.lb) ∧ Hid (∀ s k, L s k = (S.loose s k && (left s k || !(s == n && decide (((sectors z : Nat) : Int) ≤ k)))))) (fun _ wr => wr.rangeLeft c.lb w.heap.size)
  case atStart => exact ⟨_, _, _, HLR.out, gr_of_none G0.out, fun s k => by cases S.loose s k <;> simp⟩
  case round =>
    obtain ⟨L, left, cnt, hlr, hgr, hrel⟩ := hrel
    have hne : some c.lb ≠ some d := fun e => by have := H.out.tL; rw [Option.some.inj e, H.out.tD] at this; cases this
    have hcd := (H.out.self.gr hgr hne).cell
    unfold selfC at hcd
    have hlt := hlr.lt
    have hleft := hlr.left_eq
    have HL0 := Lib.hid hleft
    have HR := Lib.hid hgr
    clear hleft hgr
    go_wp2_with (first | (at_next; refine wp_lm_next rfl _ rfl hlr rfl ?_ ?_) | go_in)
    · intro h0 hl0
      have hend : Hid (LM wr c.lb S.nl (fun s k => S.loose s k && !(s == n && decide (((sectors z : Nat) : Int) ≤ k)))) := hlr.lm.congr fun s k hk => by rw [hrel.out, hl0 s k hk]; rfl
      clear hl0 hlr
      go_wp2
      go_end0
      exact ⟨rfl, hend.out, HR.out⟩
    · intro s k w2 cnt2 hok hls hlr2 hlt2 g2 hz2 hen v2
      have HLR2 := Lib.hid hlr2
      have hlt3 := hlr2.lt
      have hdr : some w.heap.size ≠ some d := fun e => by have := (H.out.inb d (by rw [H.out.tD]; simp)).2; have := Option.some.inj e; omega
      have hcd2 := ((H.out.self.gr HR.out hne).gr g2 hdr).cell
      unfold selfC at hcd2
      obtain ⟨b2, hb2⟩ : ∃ b2, (Instr.entry (.pointer (some ⟨w.heap.size, 0, none⟩))).run Tryz.prog w2 = .ok (.tuple #[.agg #[.string ⟨s.toArray⟩, .int .i64 k], .bool b2]) w2 := by rcases hen with e | e; exact ⟨_, e⟩; exact ⟨_, e⟩
      have hg2 : Hid (w.grownBy w2 (some c.lb)) := gr_trans HR.out g2 (.inr fun q e => by cases e; exact Nat.le_refl _)
      have Hok := Lib.hid hok
      have hbox : w2.cell? ⟨x, 0, none⟩ = some (.int .i64 z) := ((HBX.out.gr HR.out (fun e => hxl (Option.some.inj e).symm)).gr g2 (fun e => by have := Option.some.inj e; omega)).cell 0
      have hboxA : (w2.alloc (.cells #[.string ⟨s.toArray⟩, .int .i64 k] 137)).cell? ⟨x, 0, none⟩ = some (.int .i64 z) := (World.cell?_alloc_lt w2 _ ⟨x, 0, none⟩ (by simp; omega)).trans hbox
      clear hcd hlr hen hlr2 g2 hls hok
      have hcnt : Hid (∀ wx cx L2 l2, LR wx c.lb w.heap.size S.nl L2 l2 cx → cx ≤ cnt2 → wx.rangeLeft c.lb w.heap.size < wr.rangeLeft c.lb w.heap.size) := fun wx cx L2 l2 hx hle => by rw [hx.left_eq, HL0.out]; omega
      by_cases hsn : s = n
      · subst hsn
        by_cases hsk : ((sectors z : Nat) : Int) ≤ k
        · go_wp2_with (first | (go_at_call 75; refine (sectors_any _ _ (by omega) (by omega)).mono ?_; rintro e w9 ⟨rfl, rfl⟩; rw [Int.toNat_natCast]) | go_in)
          have HX : Hid (∀ wx, w2.grownBy wx none → LR wx c.lb w.heap.size S.nl L (noK left s k) cnt2) := fun wx hx => HLR2.out.gr hx (by simp) (by simp)
          have hdl : d < w2.heap.size := by have := (H.out.inb d (by rw [H.out.tD]; simp)).2; omega
          have hd1 : (w2.alloc (.cells #[.string ⟨s.toArray⟩, .int .i64 k] 137)).cell? ⟨d, 1, none⟩ = some (.map (some c.lb)) := (World.cell?_alloc_lt w2 _ ⟨d, 1, none⟩ hdl).trans (hcd2 1)
          clear hlt hcd2
          obtain ⟨w3, cnt3, hrun, hlr3, hle3, g3, hz3⟩ := run_lm_del (HX.out (w2.alloc (.cells #[.string ⟨s.toArray⟩, .int .i64 k] 137)).drew (gr_none (gr_alloc _ _ none) (gr_drew _ none))) Hok.out 0
          have HL3 := Lib.hid hlr3
          have G3 := Lib.hid g3
          have hrel3 := settle_hit (M := fun y j => y == s && decide (((sectors z : Nat) : Int) ≤ j)) hrel.out (s0 := s) (k0 := k) (by simpa using hsk)
          have HREL3 := Lib.hid hrel3
          clear hlr3 g3 hrel3
          go_region
          go_wp2
          go_roundw
          case rel => exact ⟨_, _, _, HL3.out, gr_trans (gr_none hg2.out (gr_none (gr_alloc _ _ none) (gr_drew _ none))) G3.out (.inl rfl), HREL3.out⟩
          case measure => exact hcnt.out _ _ _ _ HL3.out hle3
        · have HX : Hid (∀ wx, w2.grownBy wx none → LR wx c.lb w.heap.size S.nl L (noK left s k) cnt2) := fun wx hx => HLR2.out.gr hx (by simp) (by simp)
          have hrel3 := settle_miss (M := fun y j => y == s && decide (((sectors z : Nat) : Int) ≤ j)) hrel.out (s0 := s) (k0 := k) (by simpa using hsk)
          have HREL3 := Lib.hid hrel3
          clear hrel3
          go_wp2_with (first | (go_at_call 75; refine (sectors_any _ _ (by omega) (by omega)).mono ?_; rintro e w9 ⟨rfl, rfl⟩; rw [Int.toNat_natCast]) | go_in)
          go_roundw
          case rel => exact ⟨_, _, _, HX.out _ (gr_alloc _ _ none), gr_none hg2.out (gr_alloc _ _ none), HREL3.out⟩
          case measure => exact hcnt.out _ _ _ _ (HX.out _ (gr_alloc _ _ none)) (Nat.le_refl _)
      · have HX : Hid (∀ wx, w2.grownBy wx none → LR wx c.lb w.heap.size S.nl L (noK left s k) cnt2) := fun wx hx => HLR2.out.gr hx (by simp) (by simp)
        have hrel3 := settle_miss (M := fun y j => y == n && decide (((sectors z : Nat) : Int) ≤ j)) hrel.out (s0 := s) (k0 := k) (by simp [hsn])
        have HREL3 := Lib.hid hrel3
        clear hrel3
        go_wp2
        go_roundw
        case rel => exact ⟨_, _, _, HX.out _ (gr_alloc _ _ none), gr_none hg2.out (gr_alloc _ _ none), HREL3.out⟩
        case measure => exact hcnt.out _ _ _ _ (HX.out _ (gr_alloc _ _ none)) (Nat.le_refl _)
end
end Go.Proofs.YtipankjajdpiiaaGreat

/- A disk's Used. -/
namespace Go.Proofs.YtipankjajdpiiaaGreat
open Go.RowKit
set_option maxRecDepth 100000
set_option maxHeartbeats 400000

def usedBut (fs : List Fi) (left : List UInt8 → Bool) : Nat := ((fs.filter fun f => !left f.name).map fun f => sectors f.now.length).sum
theorem usedBut_all (fs : List Fi) {left : List UInt8 → Bool} (h : ∀ f ∈ fs, left f.name = true) : usedBut fs left = 0 := by
  unfold usedBut
  rw [List.filter_eq_nil_iff.2 (fun f hf => by rw [h f hf]; simp)]
  rfl
theorem usedBut_none (fs : List Fi) {left : List UInt8 → Bool} (h : ∀ s, left s = false) : usedBut fs left = (fs.map fun f => sectors f.now.length).sum := by
  unfold usedBut
  rw [List.filter_eq_self.2 (fun f _ => by rw [h]; rfl)]
theorem usedBut_step {fs : List Fi} (hn : (fs.map Fi.name).Nodup) {left : List UInt8 → Bool} {f : Fi} (hf : f ∈ fs) (hl : left f.name = true) : usedBut fs (fun x => left x && !(x == f.name)) = usedBut fs left + sectors f.now.length := by
  induction fs with
  | nil => cases hf
  | cons a l ih =>
    rw [List.map_cons, List.nodup_cons] at hn
    unfold usedBut at ih ⊢
    by_cases e : a = f
    · subst e
      have hsame : (l.filter fun g => !(left g.name && !(g.name == a.name))) = l.filter fun g => !left g.name := List.filter_congr fun g hg => by
        have : g.name ≠ a.name := fun e => hn.1 (List.mem_map.2 ⟨g, hg, e⟩)
        simp [this]
      simp only [List.filter_cons]
      rw [hsame, hl]
      simp
      omega
    · have hfl : f ∈ l := by
        rcases List.mem_cons.1 hf with h | h
        · exact absurd h.symm e
        · exact h
      have hne : a.name ≠ f.name := fun e2 => hn.1 (List.mem_map.2 ⟨f, hfl, e2.symm⟩)
      have hq : (a.name == f.name) = false := by simpa using hne
      have := ih hn.2 hfl
      simp only [List.filter_cons, hq]
      cases left a.name
      · simp at this ⊢; omega
      · simp at this ⊢; omega
theorem usedBut_le {fs : List Fi} (h : ∀ f ∈ fs, f.now.length ≤ 16777216) (left : List UInt8 → Bool) : usedBut fs left ≤ fs.length * 262144 := by
  induction fs with
  | nil => simp [usedBut]
  | cons a l ih =>
    have h1 := ih fun f hf => h f (List.mem_cons_of_mem _ hf)
    have h2 := h a (List.mem_cons_self ..)
    unfold usedBut at h1 ⊢
    have h3 : sectors a.now.length ≤ 262144 := by unfold sectors; omega
    simp only [List.filter_cons]
    split
    · rw [List.map_cons, List.sum_cons, List.length_cons, Nat.add_mul]; omega
    · rw [List.length_cons, Nat.add_mul]; exact Nat.le_trans h1 (Nat.le_add_right _ _)
theorem domOf_inv {fs : List Fi} {fb : List UInt8 → Nat} {s : List UInt8} {b : Nat} (h : domOf fs fb s = some b) : ∃ f ∈ fs, f.name = s ∧ b = fb s := by
  unfold domOf at h
  cases hq : fs.find? (fun f => f.name == s) with
  | none => rw [hq] at h; cases h
  | some f =>
    rw [hq] at h
    exact ⟨f, List.mem_of_find?_eq_some hq, by simpa using List.find?_some hq, by simpa using h.symm⟩
section
variable {w : World} {B d : Nat} {o : Own1} {S : Dk} {c : Con}
theorem used_nil (w : World) : Calls Tryz.prog 76 #[.pointer none] w fun e w' => e = .returned (.int .i64 0) ∧ w = w' := by
  go_enter Tryz.func76, Tryz.ntmps76
  go_wp2
  go_ret
  exact ⟨rfl, rfl⟩
set_option maxHeartbeats 1000000 in
theorem used_any (h : DI w B o d S c) (hfl : S.fs.length ≤ 1000000) : Calls Tryz.prog 76 #[.pointer (some ⟨d, 0, none⟩)] w fun e w' => e = .returned (.int .i64 S.used) ∧ w.grownBy w' none := by
  have hc := h.self.cell
  have hfm := h.fm
  unfold selfC at hc
  have H := Lib.hid h
  clear h
  go_enter Tryz.func76, Tryz.ntmps76
  go_wp2_with (first | (at_range; refine wp_fm_range rfl _ rfl hfm rfl ?_; intro w0 left cnt hlr hall g0 hz0) | go_in)
  go_frame
  clear hfm
  have HLR := Lib.hid hlr
  have HALL := Lib.hid hall
  have G0 := Lib.hid g0
  clear hlr g0 hall
  go_loopw [3, 5] (fun u _ wr => ∃ (left : List UInt8 → Bool) (cnt : Nat), FR wr c.mb w.heap.size S.fs.length (domOf S.fs c.fb) left cnt ∧ w.grownBy wr none ∧ u = .int .i64 (usedBut S.fs left)) (fun _ _ wr => wr.rangeLeft c.mb w.heap.size)
  case atStart => exact ⟨_, _, HLR.out, G0.out, by rw [usedBut_all S.fs fun f hf => HALL.out f.name _ (by unfold domOf; rw [find_mem H.out.names hf]; rfl)]; rfl⟩
  case round =>
    obtain ⟨left, cnt, hlr, hgr, rfl⟩ := hrel
    have hlt := hlr.lt
    have hleft := hlr.left_eq
    have HL0 := Lib.hid hleft
    have HR := Lib.hid hgr
    have hub := usedBut_le (fun f hf => (H.out.file f hf).small.2.1) left
    clear hleft hgr
    go_wp2_with (first | (at_next; refine wp_fm_next rfl _ rfl hlr rfl ?_ ?_) | go_in)
    · intro h0 hl0
      have hend : Hid (usedBut S.fs left = S.used) := usedBut_none S.fs hl0
      clear hl0 hlr
      go_wp2
      go_ret
      exact ⟨by rw [← hend.out]; rfl, HR.out⟩
    · intro s b w2 cnt2 hls hdom hlr2 hlt2 g2 hz2 hen
      obtain ⟨f, hf, rfl, rfl⟩ := domOf_inv hdom
      have g02 : w.grownBy w2 none := gr_trans HR.out g2 (.inr fun q e => by cases e; exact Nat.le_refl _)
      have hfile := (H.out.ext g02).file f hf
      have hfc := hfile.box.cell 0
      obtain ⟨A, cp, hv⟩ := hfile.now.rd.form
      have hfc' : w2.cell? ⟨c.fb f.name, 0, none⟩ = some (.slice A f.now.length cp) := by rw [← hv]; exact hfc
      have hsm := hfile.small
      have hst := usedBut_step H.out.names hf hls
      have hrel2 : Hid (Value.int .i64 ((usedBut S.fs left : Nat) + (sectors f.now.length : Nat) : Int) = .int .i64 (usedBut S.fs (fun x => left x && !(x == f.name)) : Nat)) := by
        show _ = _
        rw [hst]; simp
      have HLR2 := Lib.hid hlr2
      have G02 := Lib.hid g02
      have hcnt : Hid (w2.rangeLeft c.mb w.heap.size < wr.rangeLeft c.mb w.heap.size) := by
        show _ < _
        rw [hlr2.left_eq, HL0.out]; exact hlt2
      have hsl : sectors f.now.length ≤ 262144 := by unfold sectors; omega
      clear hfile hfc hv hst hlr2 g02 hls hdom g2 hlr
      go_wp2_with (first | (go_at_call 75; refine (sectors_any _ _ (by omega) (by omega)).mono ?_; rintro e w9 ⟨rfl, rfl⟩; rw [Int.toNat_natCast]) | go_in)
      go_roundw
      case rel => exact ⟨_, _, HLR2.out, G02.out, hrel2.out⟩
      case measure => exact hcnt.out
end
end Go.Proofs.YtipankjajdpiiaaGreat

/- A disk: New, Create, Sync, Size, Read, Cut. -/
namespace Go.Proofs.YtipankjajdpiiaaGreat
open Go.RowKit
set_option maxRecDepth 100000
set_option maxHeartbeats 400000

def DOut (o : Own1) (w : World) (B d : Nat) (S : Dk) (w' : World) : Prop := ∃ o' c', DI w' B o' d S c' ∧ Ch o w o' w'
def newD (q : Nat) : Dk := ⟨[], fun _ _ => false, 0, q, 0, false⟩
def newO (b : Nat) : Own1 := fun i => if i = b then some (1, []) else if i = b + 1 then some (2, []) else if i = b + 2 then some (0, []) else none
def newC (b : Nat) : Con := ⟨b, b + 1, fun _ => 0, fun _ => .slice none 0 0, fun _ => .slice none 0 0⟩
theorem new_di (w : World) (q : Nat) (hq : q ≤ 1048576) :
    DI (((w.alloc (.map #[] 0)).alloc (.map #[] 0)).alloc (.cells #[.map (some w.heap.size), .map (some (w.heap.size + 1)), .int .i64 q, .int .i64 0, .bool false] 74)) w.heap.size (newO w.heap.size) (w.heap.size + 2) (newD q) (newC w.heap.size) where
  self := by
    have := Blk.new ((w.alloc (.map #[] 0)).alloc (.map #[] 0)) 74 #[.map (some w.heap.size), .map (some (w.heap.size + 1)), .int .i64 q, .int .i64 0, .bool false]
    rw [World.size_alloc, World.size_alloc] at this
    exact this
  fm := ((FM.made w).gr (gr_alloc _ _ none) (by simp)).gr (gr_alloc _ _ none) (by simp)
  lm := by
    have := (LM.made (w.alloc (.map #[] 0))).gr (gr_alloc _ (.cells #[.map (some w.heap.size), .map (some (w.heap.size + 1)), .int .i64 q, .int .i64 0, .bool false] 74) none) (by simp)
    rw [World.size_alloc] at this
    exact this
  file := fun f hf => by cases hf
  tag := fun f hf => by cases hf
  names := List.nodup_nil
  tD := by simp [newO]
  tM := by simp [newO, newC]
  tL := by simp [newO, newC]
  inb := fun i hi => by
    by_cases h1 : i = w.heap.size
    · simp [World.size_alloc]; omega
    · by_cases h2 : i = w.heap.size + 1
      · simp [World.size_alloc]; omega
      · by_cases h3 : i = w.heap.size + 2
        · simp [World.size_alloc]; omega
        · simp [newO, h1, h2, h3] at hi
  lim := ⟨hq, by simp [newD]⟩
theorem new_bad (q : Int) (w : World) (h : q < 0 ∨ 1048576 < q) : Calls Tryz.prog 7 #[.int .i64 q] w fun e w' => e = .returned (.tuple #[.pointer none, .int .i64 1]) ∧ w = w' := by
  by_cases h0 : q < 0
  · go_enter Tryz.func7, Tryz.ntmps7
    go_wp2
    go_ret2
    exact ⟨rfl, rfl⟩
  · have h1 : 1048576 < q := by omega
    have h2 : decide (q < 0) = false := by simp; omega
    have h3 : 0 ≤ q := by omega
    clear h h0
    go_enter Tryz.func7, Tryz.ntmps7
    go_wp2
    go_ret2
    exact ⟨rfl, rfl⟩
def NewOut (w : World) (q : Nat) (e : Ending) (w' : World) : Prop :=
  ∃ d o c, e = .returned (.tuple #[.pointer (some ⟨d, 0, none⟩), .int .i64 0]) ∧ DI w' w.heap.size o d (newD q) c ∧ w.grownBy w' none
theorem new_ok (q : Nat) (w : World) (h : q ≤ 1048576) : Calls Tryz.prog 7 #[.int .i64 q] w (NewOut w q) := by
  have hmm := @run_makeMap Tryz.prog
  have hn := Lib.hid (new_di w q h)
  go_enter Tryz.func7, Tryz.ntmps7
  go_wp2
  go_ret2
  exact ⟨_, _, _, rfl, hn.out, gr_none (gr_none (gr_alloc _ _ none) (gr_alloc _ _ none)) (gr_alloc _ _ none)⟩
section
variable {w : World} {B d : Nat} {o : Own1} {S : Dk} {c : Con}
theorem DI.base (h : DI w B o d S c) : B ≤ w.heap.size := by have := h.inb d (by rw [h.tD]; simp); omega
theorem dout_begin {w1 w' : World} (h : DI w B o d S c) (h1 : DI w1 B o d S.begin c) (g1 : w.grownBy w1 (some d)) (g2 : w1.grownBy w' none) : DOut o w B d S.begin w' :=
  ⟨o, c, h1.ext g2, (Ch.of_gr g1 (fun k e => by cases e; rw [h.tD]; simp)).trans (Ch.ext g2)⟩
set_option maxHeartbeats 1000000 in
theorem create_any (h : DI w B o d S c) (n : List UInt8) (hn : n.length ≤ 1000000000) (hfl : S.fs.length ≤ 1000000) :
    Calls Tryz.prog 65 #[.pointer (some ⟨d, 0, none⟩), .string ⟨n.toArray⟩] w fun e w' => e = .returned (.int .i64 (S.create n).2) ∧ DOut o w B d (S.create n).1 w' := by
  have H := Lib.hid h
  have hbg := begin_any h
  have HB := Lib.hid hbg
  clear h hbg
  cases hd : S.begin.dead with
  | true =>
    have e : S.create n = (S.begin, 6) := by unfold Dk.create; rw [hd]; rfl
    rw [e]
    clear e
    go_enter Tryz.func65, Tryz.ntmps65
    go_wp2_with fail
    refine HB.out.mono ?_
    rintro e w1 ⟨rfl, h1, g1⟩
    have H1 := Lib.hid h1
    clear h1
    rw [hd]
    go_wp2
    go_ret
    exact ⟨rfl, dout_begin H.out H1.out g1 (gr_refl _ _)⟩
  | false =>
    cases hr : rightB n with
    | false =>
      have e : S.create n = (S.begin, 1) := by unfold Dk.create; rw [hd, hr]; rfl
      rw [e]
      clear e
      go_enter Tryz.func65, Tryz.ntmps65
      go_wp2_with fail
      refine HB.out.mono ?_
      rintro e w1 ⟨rfl, h1, g1⟩
      have H1 := Lib.hid h1
      clear h1
      rw [hd]
      go_wp2_with (go_at_call 74; refine (find_bad d n true _ hn (.inl hr)).mono ?_; rintro e w2 ⟨rfl, g2⟩)
      go_ret
      exact ⟨rfl, dout_begin H.out H1.out g1 g2⟩
    | true =>
      cases hf : S.find n with
      | some f =>
        have e : S.create n = (S.begin, 4) := by unfold Dk.create; rw [hd, hr, hf]; rfl
        rw [e]
        clear e
        have hf1 : S.begin.find n = some f := by rw [begin_find]; exact hf
        clear hf
        go_enter Tryz.func65, Tryz.ntmps65
        go_wp2_with fail
        refine HB.out.mono ?_
        rintro e w1 ⟨rfl, h1, g1⟩
        have H1 := Lib.hid h1
        have Hfo := Lib.hid (find_ok h1 hn hr hf1)
        clear h1 hf1
        rw [hd]
        go_wp2_with (go_at_call 74; refine Hfo.out.mono ?_; rintro e w2 ⟨rfl, g2⟩)
        go_ret
        exact ⟨rfl, dout_begin H.out H1.out g1 g2⟩
      | none =>
        have e : S.create n = ({ S.begin with fs := S.fs ++ [⟨n, [], []⟩] }, 0) := by unfold Dk.create; rw [hd, hr, hf]; rfl
        rw [e]
        clear e
        have hf1 : S.begin.find n = none := by rw [begin_find]; exact hf
        have HF := Lib.hid hf1
        have hnr := right_len hr
        clear hf
        go_enter Tryz.func65, Tryz.ntmps65
        go_wp2_with fail
        refine HB.out.mono ?_
        rintro e w1 ⟨rfl, h1, g1⟩
        have H1 := Lib.hid h1
        have Hfo := Lib.hid (find_no h1 hn hr hf1)
        clear h1 hf1
        rw [hd]
        go_wp2_with fail
        refine Hfo.out.mono ?_
        rintro e w2 ⟨rfl, g2⟩
        have h2 := H1.out.ext g2
        have hc := h2.self.cell
        unfold selfC at hc
        have H2 := Lib.hid h2
        have G2 := Lib.hid g2
        have hfm : FM (w2.alloc (.cells #[.slice none 0 0, .slice none 0 0] 96)) c.mb S.begin.fs.length (domOf S.begin.fs c.fb) := h2.fm.gr (gr_alloc _ _ none) (by simp)
        have hmb : S.begin.fs.length < maxLen := by rw [begin_fs]; unfold maxLen; omega
        have hnm : n.length ≤ maxLen := by unfold maxLen; omega
        clear h2 g2 hd hr
        go_wp2_with (at_mapUpdate; refine wp_fm_put rfl _ _ _ rfl hfm rfl hmb hnm rfl w2.heap.size rfl ?_; intro w3 hfm3 g3)
        go_ret
        refine ⟨rfl, ?_⟩
        have hmbd : ∀ i, i ≠ c.mb → i < w2.heap.size + 1 → w3.heap[i]? = (w2.alloc (.cells #[.slice none 0 0, .slice none 0 0] 96)).heap[i]? := fun i hi hl => g3.block i (by rw [World.size_alloc]; exact hl) (fun e => hi (by cases e; rfl))
        have hz3 := g3.size
        rw [World.size_alloc] at hz3
        have hml := H2.out.fm.lt
        obtain ⟨o', c', hdi, hoo⟩ := H2.out.add (w' := w3) HF.out hnr.2 H2.out.base (by omega) (fun i hi hm => by
          have hl := (H2.out.inb i hi).2
          rw [hmbd i hm (by omega)]
          exact heap_alloc_old w2 _ hl) (by
          have : Blk (w2.alloc (.cells #[.slice none 0 0, .slice none 0 0] 96)) w2.heap.size 96 #[.slice none 0 0, .slice none 0 0] := Blk.new w2 _ _
          exact this.same (hmbd _ (by omega) (by omega))) hfm3
        have hfs : { S.begin with fs := S.begin.fs ++ [⟨n, [], []⟩] } = ({ S.begin with fs := S.fs ++ [⟨n, [], []⟩] } : Dk) := by rw [begin_fs]
        rw [hfs] at hdi
        refine ⟨o', c', hdi, (Ch.of_gr g1 (fun k e => by cases e; rw [H.out.tD]; simp)).trans ((Ch.ext G2.out).trans ⟨g3.os, g3.tape, g3.output, by omega, fun i hi h0 => ?_, fun i hi h0 => by rw [hoo i hi]; exact h0⟩)⟩
        rw [hmbd i (fun e => by rw [e, H.out.tM] at h0; cases h0) (by omega)]
        exact heap_alloc_old w2 _ hi
/-- what an operation is that ends ahead of a file. -/
theorem size_any (h : DI w B o d S c) (n : List UInt8) (hn : n.length ≤ 1000000000) :
    Calls Tryz.prog 64 #[.pointer (some ⟨d, 0, none⟩), .string ⟨n.toArray⟩] w fun e w' => e = .returned (.tuple #[.int .i64 (S.size n).1, .int .i64 (S.size n).2]) ∧ w.grownBy w' none := by
  have H := Lib.hid h
  have hlk := look_any h
  have HK := Lib.hid hlk
  clear hlk
  cases hd : S.dead with
  | true =>
    have e : S.size n = (0, 6) := by unfold Dk.size; rw [hd]; rfl
    rw [e]
    clear e h
    go_enter Tryz.func64, Tryz.ntmps64
    go_wp2_with fail
    refine HK.out.mono ?_
    rintro e w1 ⟨rfl, rfl⟩
    rw [hd]
    go_wp2
    go_ret2
    exact ⟨rfl, gr_refl _ _⟩
  | false =>
    cases hr : rightB n with
    | false =>
      have e : S.size n = (0, 1) := by unfold Dk.size; rw [hd, hr]; rfl
      rw [e]
      clear e h
      go_enter Tryz.func64, Tryz.ntmps64
      go_wp2_with fail
      refine HK.out.mono ?_
      rintro e w1 ⟨rfl, rfl⟩
      rw [hd]
      go_wp2_with (go_at_call 74; refine (find_bad d n true _ hn (.inl hr)).mono ?_; rintro e w2 ⟨rfl, g2⟩)
      go_ret2
      exact ⟨rfl, g2⟩
    | true =>
      cases hf : S.find n with
      | none =>
        have e : S.size n = (0, 3) := by unfold Dk.size; rw [hd, hr, hf]; rfl
        rw [e]
        have Hfo := Lib.hid (find_no h hn hr hf)
        clear e h hf
        go_enter Tryz.func64, Tryz.ntmps64
        go_wp2_with fail
        refine HK.out.mono ?_
        rintro e w1 ⟨rfl, rfl⟩
        rw [hd]
        go_wp2_with (go_at_call 74; refine Hfo.out.mono ?_; rintro e w2 ⟨rfl, g2⟩)
        go_ret2
        exact ⟨rfl, g2⟩
      | some f =>
        have e : S.size n = (f.now.length, 0) := by unfold Dk.size; rw [hd, hr, hf]; rfl
        rw [e]
        have Hfo := Lib.hid (find_ok h hn hr hf)
        obtain ⟨hm, rfl⟩ := find_some hf
        have Hm := Lib.hid hm
        clear e h hf hm
        go_enter Tryz.func64, Tryz.ntmps64
        go_wp2_with fail
        refine HK.out.mono ?_
        rintro e w1 ⟨rfl, rfl⟩
        rw [hd]
        go_wp2_with fail
        refine Hfo.out.mono ?_
        rintro e w2 ⟨rfl, g2⟩
        have hfr := (H.out.ext g2).file f Hm.out
        obtain ⟨A, cp, hv⟩ := hfr.now.rd.form
        have hfc : w2.cell? ⟨c.fb f.name, 0, none⟩ = some (.slice A f.now.length cp) := by rw [← hv]; exact hfr.box.cell 0
        have hsm := hfr.small
        clear hfr hv hd hr
        go_wp2
        go_ret2
        exact ⟨rfl, g2⟩
end
end Go.Proofs.YtipankjajdpiiaaGreat
