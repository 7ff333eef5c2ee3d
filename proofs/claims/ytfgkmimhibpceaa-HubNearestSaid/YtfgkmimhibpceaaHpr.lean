/-
  Hub: Prune: the nearest of each hub, what is let go, and what stays.
-/
import Derived.Test.YtfgkmimhibpceaaHcol
namespace Go.Proofs.Ytfgkmimhibpceaa
open Go.RowKit
set_option maxRecDepth 100000
set_option maxHeartbeats 400000

/-! plainly -/
def domN (near : UInt32 → Option UInt64) : UInt32 → Option Value := fun h => (near h).map fun d => .int .u64 d.toNat
def nearB (near : UInt32 → Option UInt64) (x : Lb) : UInt32 → Option UInt64 := fun h => if h = x.hub then (match near x.hub with | none => some x.dist | some d => some (if x.dist.toNat < d.toNat then x.dist else d)) else near h
def nearP (l : List Lb) : UInt32 → Option UInt64 := l.foldl nearB (fun _ => none)
theorem nearB_keep {near : UInt32 → Option UInt64} {x : Lb} {d : UInt64} (hb : near x.hub = some d) (hn : ¬ x.dist.toNat < d.toNat) : nearB near x = near := by
  funext h
  unfold nearB
  by_cases e : h = x.hub
  · subst e; rw [if_pos rfl, hb]; simp [hn]
  · rw [if_neg e]
theorem nearB_set {near : UInt32 → Option UInt64} {x : Lb} (hb : near x.hub = none ∨ ∃ d, near x.hub = some d ∧ x.dist.toNat < d.toNat) : domN (nearB near x) = fun h => if h = x.hub then some (.int .u64 x.dist.toNat) else domN near h := by
  funext h
  unfold domN nearB
  by_cases e : h = x.hub
  · subst e
    rw [if_pos rfl, if_pos rfl]
    rcases hb with hb | ⟨old, hb, ha⟩
    · rw [hb]; rfl
    · rw [hb]; simp [ha]
  · rw [if_neg e, if_neg e]
/-- do two labels come to less? -/
def gone1 (near : UInt32 → Option UInt64) (x y : Lb) : Bool := match near y.hub with
  | none => false
  | some a => decide (a.toNat + y.dist.toNat < 9223372036854775808) && decide (a.toNat + y.dist.toNat < x.dist.toNat)
/-- near's box and map. -/
structure NearS (w : World) (bp m n : Nat) (near : UInt32 → Option UInt64) : Prop where
  box : Blk w bp 67 #[.map (some m)]
  vm : VM jU w m n (domN near)
theorem NearS.ext {w w' : World} {bp m n : Nat} {near : UInt32 → Option UInt64} (h : NearS w bp m n near) (hg : w.grownBy w' none) : NearS w' bp m n near := ⟨h.box.ext hg, h.vm.ext hg⟩
theorem NearS.gr {w w' : World} {bp m n r : Nat} {near : UInt32 → Option UInt64} (h : NearS w bp m n near) (hg : w.grownBy w' (some r)) (h1 : bp ≠ r) (h2 : m ≠ r) : NearS w' bp m n near := ⟨h.box.gr hg (by simpa using fun e => h1 e.symm), h.vm.gr hg (by simpa using fun e => h2 e.symm)⟩
theorem Try.zeroU (w : World) : (zeroValue 37).run Try.prog w = .ok (.int .u64 0) w := Try.zeroValue37 w
set_option maxHeartbeats 2000000 in
theorem gone1_any {w : World} {bp m n bx : Nat} {near : UInt32 → Option UInt64} (h : NearS w bp m n near) (x y : Lb) (hx : Blk w bx 39 #[.int .u32 x.hub.toNat, .int .u32 x.next.toNat, .int .u64 x.dist.toNat]) :
    Calls Try.prog 39 #[y.v, .pointer (some ⟨bp, 0, none⟩), .pointer (some ⟨bx, 0, none⟩)] w fun e w' => e = .returned (.bool (gone1 near x y)) ∧ w.grownBy w' none := by
  obtain ⟨xh, xn, xd⟩ := x
  obtain ⟨yh, yn, yd⟩ := y
  have hcb : w.cell? ⟨bp, 0, none⟩ = some (.map (some m)) := h.box.cell 0
  have hcx : w.cell? ⟨bx, 2, none⟩ = some (.int .u64 xd.toNat) := hx.cell 2
  have hg1 : w.grownBy (w.alloc (.cells #[.int .u32 yh.toNat, .int .u32 yn.toNat, .int .u64 yd.toNat] 39)) none := gr_alloc _ _ _
  have hlk := (h.vm.ext hg1).look2 Try.underlying67 (Try.zeroU _) yh
  have hcb1 := hg1.cell hcb (by simp)
  have hcx1 := hg1.cell hcx (by simp)
  clear h hx hcb hcx
  unfold Lb.v
  cases hb : near yh with
  | none =>
    have hd : domN near yh = none := by unfold domN; rw [hb]; rfl
    simp only [hd] at hlk
    change (Instr.lookup 67 (.map (some m)) (.int .u32 yh.toNat) true).run Try.prog _ = .ok (.tuple #[.int .u64 0, .bool false]) _ at hlk
    have HV : Hid (gone1 near ⟨xh, xn, xd⟩ ⟨yh, yn, yd⟩ = false) := by show _ = _; simp [gone1, hb]
    have HAW := Lib.hid (addw_any 0 yd.toNat (by omega) yd.toNat_lt)
    clear hb hd
    generalize hz : addV 0 yd.toNat = z at *
    unfold addV at hz
    generalize (if 0 + yd.toNat < 9223372036854775808 then 0 + yd.toNat else 0) = z1 at hz
    generalize decide (0 + yd.toNat < 9223372036854775808) = z2 at hz
    subst hz
    go_enter Try.func39, Try.ntmps39
    go_wp2_with (go_at_call 31; refine (HAW.out _).mono ?_; rintro e w5 ⟨rfl, rfl⟩)
    go_ret
    exact ⟨by rw [HV.out]; rfl, hg1⟩
  | some a =>
    have hd : domN near yh = some (.int .u64 a.toNat) := by unfold domN; rw [hb]; rfl
    simp only [hd] at hlk
    change (Instr.lookup 67 (.map (some m)) (.int .u32 yh.toNat) true).run Try.prog _ = .ok (.tuple #[.int .u64 a.toNat, .bool true]) _ at hlk
    have HAW := Lib.hid (addw_any a.toNat yd.toNat a.toNat_lt yd.toNat_lt)
    by_cases h1 : a.toNat + yd.toNat < 9223372036854775808
    · rw [addV_lt h1] at HAW
      by_cases h2 : a.toNat + yd.toNat < xd.toNat
      · have HV : Hid (gone1 near ⟨xh, xn, xd⟩ ⟨yh, yn, yd⟩ = true) := by show _ = _; simp [gone1, hb, h1, h2]
        generalize a.toNat + yd.toNat = s at *
        clear hb hd h1
        go_enter Try.func39, Try.ntmps39
        go_wp2_with (go_at_call 31; refine (HAW.out _).mono ?_; rintro e w5 ⟨rfl, rfl⟩)
        go_ret
        exact ⟨by rw [HV.out]; rfl, gr_none hg1 (by first | exact gr_refl _ _ | exact gr_drew _ _ | exact gr_drewN _ _ _)⟩
      · have HV : Hid (gone1 near ⟨xh, xn, xd⟩ ⟨yh, yn, yd⟩ = false) := by show _ = _; simp [gone1, hb, h1, h2]
        generalize a.toNat + yd.toNat = s at *
        clear hb hd h1
        go_enter Try.func39, Try.ntmps39
        go_wp2_with (go_at_call 31; refine (HAW.out _).mono ?_; rintro e w5 ⟨rfl, rfl⟩)
        go_ret
        exact ⟨by rw [HV.out]; rfl, gr_none hg1 (by first | exact gr_refl _ _ | exact gr_drew _ _ | exact gr_drewN _ _ _)⟩
    · rw [addV_ge h1] at HAW
      have HV : Hid (gone1 near ⟨xh, xn, xd⟩ ⟨yh, yn, yd⟩ = false) := by show _ = _; simp [gone1, hb, h1]
      clear hb hd h1
      go_enter Try.func39, Try.ntmps39
      go_wp2_with (go_at_call 31; refine (HAW.out _).mono ?_; rintro e w5 ⟨rfl, rfl⟩)
      go_ret
      exact ⟨by rw [HV.out]; rfl, gr_none hg1 (by first | exact gr_refl _ _ | exact gr_drew _ _ | exact gr_drewN _ _ _)⟩
/-- none of the first k. -/
def NoneTo {α : Type} (G : α → Bool) (l : List α) (k : Nat) : Prop := (l.take k).any G = false
theorem NoneTo.succ {α : Type} {G : α → Bool} {l : List α} {k : Nat} (h : NoneTo G l k) (hk : k < l.length) (hg : G l[k] = false) : NoneTo G l (k + 1) := by
  unfold NoneTo at *
  rw [List.take_succ_eq_append_getElem hk, List.any_append, h]; simp [hg]
theorem any_at {α : Type} {G : α → Bool} {l : List α} {k : Nat} (hk : k < l.length) (hg : G l[k] = true) : l.any G = true := List.any_eq_true.2 ⟨_, List.getElem_mem hk, hg⟩
def idxB (b : Bool) (i : Int) : Prop := if b = true then 0 ≤ i else i = -1
theorem index_any (bp bx : Nat) (G : Lb → Bool) (v : Value) (l : List Lb) (w : World) (h : RdL w v l) (hn : l.length ≤ 1000000000)
    (hG : ∀ wx, w.grownBy wx none → ∀ y : Lb, Calls Try.prog 39 #[y.v, .pointer (some ⟨bp, 0, none⟩), .pointer (some ⟨bx, 0, none⟩)] wx fun e w' => e = .returned (.bool (G y)) ∧ wx.grownBy w' none) :
    Calls Try.prog 47 #[v, .func (.func 39) #[] #[.pointer (some ⟨bp, 0, none⟩), .pointer (some ⟨bx, 0, none⟩)]] w fun e w' => (∃ i : Int, e = .returned (.int .i64 i) ∧ Hid (idxB (l.any G) i)) ∧ w.grownBy w' none := by
  obtain ⟨A, c, rfl⟩ := h.form
  obtain ⟨g, off, hA, _, hcells⟩ := h.at_ lb3
  have HA := Lib.hid hA
  have HC := Lib.hid hcells
  have HG := Lib.hid hG
  clear hA hcells h hG
  go_enter Try.func47, Try.ntmps47
  go_wp2
  go_loopw [8, 5] (fun i _ wr => ∃ k : Nat, k ≤ l.length ∧ i = .int .i64 k ∧ NoneTo G l k ∧ w.grownBy wr none) (fun i _ _ => l.length - (intOf i).toNat)
  case atStart => exact ⟨0, by omega, rfl, by simp [NoneTo], gr_refl _ _⟩
  case round =>
    obtain ⟨k, hk, rfl, hall, hg⟩ := hrel
    have Hall := Lib.hid hall
    clear hall
    by_cases hlt : k < l.length
    · have := HA.out (by omega)
      subst this
      rcases hx : l[k] with ⟨xa, xb, xc⟩
      obtain ⟨c0, c1, c2⟩ := at3L HC.out hg hlt hx
      have HCA := Lib.hid (HG.out _ hg l[k])
      rw [hx] at HCA
      unfold Lb.v at HCA
      have Hx := Lib.hid hx
      clear hx
      rcases hb : G ⟨xa, xb, xc⟩ with _ | _
      · have HN : Hid (NoneTo G l (k + 1)) := Hall.out.succ hlt (by rw [Hx.out]; exact hb)
        rw [hb] at HCA
        clear hb
        go_wp2_with fail
        refine HCA.out.mono ?_
        rintro e w5 ⟨rfl, g5⟩
        have G5 := Lib.hid (gr_none hg g5)
        clear g5
        go_wp2
        go_roundw
        case rel => exact ⟨k + 1, by omega, by go_num, HN.out, G5.out⟩
        case measure => simp [intOf]; omega
      · have HN : Hid (idxB (l.any G) k) := by show idxB _ _; unfold idxB; rw [any_at hlt (by rw [Hx.out]; exact hb)]; simp
        rw [hb] at HCA
        clear hb
        go_wp2_with fail
        refine HCA.out.mono ?_
        rintro e w5 ⟨rfl, g5⟩
        have G5 := Lib.hid (gr_none hg g5)
        clear g5
        go_wp2
        go_ret
        exact ⟨⟨_, rfl, HN⟩, G5.out⟩
    · obtain rfl : k = l.length := by omega
      have HN : Hid (idxB (l.any G) (-1)) := by
        show idxB _ _
        have := Hall.out
        unfold NoneTo at this
        rw [List.take_length] at this
        unfold idxB
        rw [this]; simp
      go_wp2
      go_ret
      exact ⟨⟨_, rfl, HN⟩, hg⟩
theorem contains_any (bp bx : Nat) (G : Lb → Bool) (v : Value) (l : List Lb) (w : World) (h : RdL w v l) (hn : l.length ≤ 1000000000)
    (hG : ∀ wx, w.grownBy wx none → ∀ y : Lb, Calls Try.prog 39 #[y.v, .pointer (some ⟨bp, 0, none⟩), .pointer (some ⟨bx, 0, none⟩)] wx fun e w' => e = .returned (.bool (G y)) ∧ wx.grownBy w' none) :
    Calls Try.prog 38 #[v, .func (.func 39) #[] #[.pointer (some ⟨bp, 0, none⟩), .pointer (some ⟨bx, 0, none⟩)]] w fun e w' => e = .returned (.bool (l.any G)) ∧ w.grownBy w' none := by
  obtain ⟨A, c, rfl⟩ := h.form
  have HI := Lib.hid (index_any bp bx G _ l w h hn hG)
  clear h hG
  generalize l.any G = B at *
  go_enter Try.func38, Try.ntmps38
  go_wp2_with fail
  refine HI.out.mono ?_
  rintro e w5 ⟨⟨i, rfl, hi⟩, g5⟩
  have G5 := Lib.hid g5
  clear g5
  cases B
  · obtain rfl : i = -1 := by simpa [idxB] using hi.out
    go_wp2
    go_ret
    exact ⟨rfl, G5.out⟩
  · have h0 : 0 ≤ i := by simpa [idxB] using hi.out
    go_wp2
    go_ret
    exact ⟨rfl, G5.out⟩
end Go.Proofs.Ytfgkmimhibpceaa
