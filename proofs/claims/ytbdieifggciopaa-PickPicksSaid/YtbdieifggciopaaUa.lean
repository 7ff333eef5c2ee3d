/-
  slices.Sort at []uint32: its words; cmp.Less; insertionSort; reverseRange.
-/
import Derived.Test.YtbdieifggciopaaB
import Derived.Sort.Walk13
import Derived.Sort.WalkA6
import Derived.Sort.WalkB2
import Derived.Sort.WalkC4
import Derived.Sort.Walk7
import Derived.Sort.WalkD2
import Derived.Sort.AssemblyPlain
namespace Go.Proofs.Ytbdieifggciopaa
open Go.RowKit
set_option maxRecDepth 100000
set_option maxHeartbeats 400000

def ltU (x y : UInt32) : Bool := decide (x.toNat < y.toNat)
theorem swo_ltU : Go.Sort.SWO ltU where
  irrefl x := by simp [ltU]
  trans x y z h1 h2 := by simp only [ltU, decide_eq_true_eq] at *; omega
  ntrans x y z h1 h2 := by simp only [ltU, decide_eq_false_iff_not] at *; omega
abbrev encU : UInt32 → Value := fun x => .int .u32 x.toNat
/-- the world w0 with a row of uint32 that holds d now, some draws on, with new blocks. -/
def At32 (w0 : World) (g off n : Nat) (d : Array UInt32) (w : World) : Prop := d.size = n ∧ Go.Sort.Holds encU w g off d ∧ g < w.heap.size ∧ Go.Sort.At encU w0 g off d w
section
variable {w0 w w' : World} {g off n : Nat} {d d' : Array UInt32}
theorem At32.cells (h : At32 w0 g off n d w) : ∃ G : Nat → Nat, (∀ t, G t = d[t]!.toNat) ∧ (∀ t, t < n → w.cell? ⟨g, off + t, none⟩ = some (.int .u32 (G t))) ∧ ∀ t, t < n → w.frozen? ⟨g, off + t, none⟩ = false :=
  ⟨fun t => d[t]!.toNat, fun _ => rfl, fun t ht => (h.2.1 t (by rw [h.1]; exact ht)).1, fun t ht => (h.2.1 t (by rw [h.1]; exact ht)).2⟩
theorem At32.drewN (h : At32 w0 g off n d w) (m : Nat) : At32 w0 g off n d (w.drewN m) := ⟨h.1, h.2.1, h.2.2.1, h.2.2.2.ahead m⟩
theorem At32.drew (h : At32 w0 g off n d w) : At32 w0 g off n d w.drew := h.drewN 1
/-- two stores: an exchange. -/
theorem At32.swap (h : At32 w0 g off n d w) {i j a b : Nat} (hi : i < n) (hj : j < n) (hb : g < w0.heap.size) (ea : a = d[i]!.toNat) (eb : b = d[j]!.toNat) :
    At32 w0 g off n (Go.Sort.swp d i j) ((w.setCell ⟨g, off + i, none⟩ (.int .u32 b)).setCell ⟨g, off + j, none⟩ (.int .u32 a)) := by
  subst ea eb
  obtain ⟨h1, h2, h3, h4⟩ := h
  have e : (w.setCell ⟨g, off + i, none⟩ (.int .u32 d[j]!.toNat)).setCell ⟨g, off + j, none⟩ (.int .u32 d[i]!.toNat) = Go.Sort.putRow encU w g off (Go.Sort.swp d i j) := by
    have := Go.Sort.putRow_swp encU w g off d i j (by omega) (by omega)
    rw [Go.Sort.putRow_self encU w g off d h2] at this
    exact this
  rw [e]
  have hs : (Go.Sort.swp d i j).size = d.size := Go.Sort.size_swp _ _ _
  exact ⟨hs.trans h1, Go.Sort.holds_putRow encU w g off d _ h2 hs, by simpa using h3, h4.step hb hs ⟨0, rfl⟩⟩
theorem At32.refl (hH : Go.Sort.Holds encU w g off d) (hg : g < w.heap.size) (hn : d.size = n) : At32 w g off n d w := ⟨hn, hH, hg, Go.Sort.At.refl hH⟩
/-- a callee's. -/
theorem At32.trans (h : At32 w0 g off n d w) (hb : g < w0.heap.size) (h' : At32 w g off n d' w') : At32 w0 g off n d' w' :=
  ⟨h'.1, h'.2.1, h'.2.2.1, h.2.2.2.stepG hb (by rw [h'.1, h.1]) h'.2.2.2⟩
theorem At32.here (h : At32 w0 g off n d w) : At32 w g off n d w := At32.refl h.2.1 h.2.2.1 h.1
/-- one that leaves the row. -/
theorem At32.same (h : At32 w0 g off n d w) (hb : g < w0.heap.size) (h' : ∃ m os, w' = Go.Sort.grow (Go.Sort.ahead w m) os) : At32 w0 g off n d w' := by
  obtain ⟨m, os, rfl⟩ := h'
  refine ⟨h.1, Go.Sort.holds_grow encU _ os g off d (by exact h.2.2.1) (Go.Sort.holds_ahead encU w m g off d h.2.1), by have := h.2.2.1; simp; omega, ?_⟩
  refine h.2.2.2.stepG hb rfl ⟨m, os, ?_⟩
  rw [Go.Sort.putRow_self encU (Go.Sort.ahead w m) g off d (Go.Sort.holds_ahead encU w m g off d h.2.1)]
end
def ltN (x y : Nat) : Bool := decide (x < y)
theorem ltU_dec {x y : UInt32} {p q : Nat} (hx : p = x.toNat) (hy : q = y.toNat) : ltU x y = ltN p q := by
  subst hx hy
  rfl
theorem nanU (x : Nat) (w : World) : Calls Try.prog 30 #[.int .u32 x] w fun e w' => e = .returned (.bool false) ∧ w' = w := by
  go_enter Try.func30, Try.ntmps30
  go_wp2
  go_ret
  exact ⟨by simp, rfl⟩
theorem lessU (x y : Nat) (w : World) : Calls Try.prog 37 #[.int .u32 x, .int .u32 y] w fun e w' => e = .returned (.bool (ltN x y)) ∧ w' = w := by
  go_enter Try.func37, Try.ntmps37
  go_wp2_with (go_at_call 30; refine (nanU _ _).mono ?_; rintro e w' ⟨rfl, rfl⟩)
  go_ret
  exact ⟨rfl, rfl⟩
set_option maxHeartbeats 4000000 in
theorem insertionU (g off cap a b n : Nat) (d : Array UInt32) (w : World) (h : At32 w g off n d w) (hab : a ≤ b) (hb : b ≤ n) (hn : n < 4611686018427387904) :
    Calls Try.prog 31 #[.slice (some ⟨g, off, none⟩) n cap, .int .i64 a, .int .i64 b] w fun e w' => e = .returned (.tuple #[]) ∧ At32 w g off n (Go.Sort.insertionSort ltU d a b) w' := by
  have hgw := Lib.hid h.2.2.1
  go_enter Try.func31, Try.ntmps31
  go_wp2
  go_loopw [6] (fun vi wr => ∃ (i : Nat) (dk : Array UInt32), vi = .int .i64 i ∧ a < i ∧ i ≤ b + 1 ∧ Hid (At32 w g off n dk wr) ∧ Hid (Go.Sort.insOuter ltU a b i dk = Go.Sort.insOuter ltU a b (a + 1) d)) (fun vi _ => b + 1 - (intOf vi).toNat)
  case atStart => exact ⟨a + 1, d, by go_num, by omega, by omega, h, Lib.hid rfl⟩
  case round =>
    obtain ⟨i, dk, rfl, hai, hib, hat, hO⟩ := hrel
    by_cases hlt : i < b
    · go_wp2
      go_loopw [7] (fun vj wq => ∃ (j : Nat) (dj : Array UInt32), vj = .int .i64 j ∧ a ≤ j ∧ j ≤ i ∧ Hid (At32 w g off n dj wq) ∧ Hid (Go.Sort.insInner ltU a j dj = Go.Sort.insInner ltU a i dk)) (fun vj _ => (intOf vj).toNat)
      case atStart => exact ⟨i, dk, rfl, by omega, Nat.le_refl _, hat, Lib.hid rfl⟩
      case round =>
        obtain ⟨j, dj, rfl, haj, hji, hatj, hI⟩ := hrel
        obtain ⟨G, hG, hcw, hfw⟩ := hatj.out.cells
        have HG := Lib.hid hG
        have HOUT : Hid ((j ≤ a ∨ ltU dj[j]! dj[j - 1]! = false) → ∀ q, ∃ (i' : Nat) (dk' : Array UInt32), Value.int .i64 ((i : Int) + 1) = .int .i64 i' ∧ a < i' ∧ i' ≤ b + 1 ∧ Hid (At32 w g off n dk' (wr.drewN q)) ∧ Hid (Go.Sort.insOuter ltU a b i' dk' = Go.Sort.insOuter ltU a b (a + 1) d)) := fun hs q =>
          ⟨i + 1, dj, by go_num, by omega, by omega, Lib.hid (hatj.out.drewN q), Lib.hid (by rw [← hO.out, insOuter_go _ _ _ _ _ hlt, ← hI.out, insInner_stop _ _ _ _ hs])⟩
        have HGO : Hid (a < j → ltU dj[j]! dj[j - 1]! = true → Go.Sort.insInner ltU a (j - 1) (Go.Sort.swp dj j (j - 1)) = Go.Sort.insInner ltU a i dk) := fun h1 h2 => (insInner_go ltU a j dj h1 h2).symm.trans hI.out
        clear hG hO hI
        by_cases hja : a < j
        · go_wp2_with fail
          go_quiet (first | (go_at_call 37; refine Calls.quiet_of_same (lessU _ _ _)))
          go_wp2
          · have hl : ltU dj[j]! dj[j - 1]! = true := by rw [ltU_dec (HG.out j) (HG.out (j - 1))]; assumption
            have HR := Lib.hid (HGO.out hja hl)
            have hA2 := Lib.hid (hatj.out.drewN nq)
            clear hcw hfw hl
            generalize World.drewN _ _ = wz at *
            have hcw : ∀ t, t < n → wz.cell? ⟨g, off + t, none⟩ = some (.int .u32 (G t)) := fun t ht => by have := (hA2.out.2.1 t (by rw [hA2.out.1]; exact ht)).1; rw [HG.out]; exact this
            have hfw : ∀ t, t < n → wz.frozen? ⟨g, off + t, none⟩ = false := fun t ht => (hA2.out.2.1 t (by rw [hA2.out.1]; exact ht)).2
            go_region
            all_goals go_wp2
            go_roundw
            case rel => exact ⟨j - 1, Go.Sort.swp dj j (j - 1), by congr 1; omega, by omega, by omega, Lib.hid (hA2.out.swap (by omega) (by omega) hgw.out (HG.out _) (HG.out _)).drew, HR⟩
            case measure => simp [intOf]; omega
          · have hl : ltU dj[j]! dj[j - 1]! = false := by rw [ltU_dec (HG.out j) (HG.out (j - 1))]; assumption
            go_roundw
            case rel => exact HOUT.out (.inr hl) nq
            case measure => simp [intOf]; omega
        · go_wp2_with fail
          go_quiet (first | (go_at_call 37; refine Calls.quiet_of_same (lessU _ _ _)))
          go_wp2
          go_roundw
          case rel => exact HOUT.out (.inl (by omega)) nq
          case measure => simp [intOf]; omega
    · go_wp2
      go_end0
      refine ⟨rfl, ?_⟩
      unfold Go.Sort.insertionSort
      rw [← hO.out, insOuter_stop _ _ _ _ _ hlt]
      exact hat.out
end Go.Proofs.Ytbdieifggciopaa
