/-
  Pick: works.
-/
import Derived.Test.YtbdieifggciopaaKw
namespace Go.Proofs.Ytbdieifggciopaa
open Go.RowKit
set_option maxRecDepth 100000
set_option maxHeartbeats 400000

instance (x y : Dt) : Decidable (nearD x y) := by unfold nearD; exact inferInstance
instance (all : List Dt) (x : Dt) : Decidable (lateD all x) := by unfold lateD; exact inferInstance
theorem PickOf.of_uni {all : List Dt} {out : List UInt32} (h : PickOf (onceD all) out) (hu : UniD all) : PickOf all out := by rw [onceD_uniq hu] at h; exact h
def wkD : List Dt := [⟨1, 5, [2]⟩, ⟨2, 4, []⟩, ⟨3, 9, [9]⟩]
theorem wk_pick : PickOf wkD [2, 3] := by
  refine ⟨by unfold RisS; decide, fun v => ⟨fun h => ?_, ?_⟩⟩
  · simp only [List.mem_cons, List.not_mem_nil, or_false] at h
    rcases h with rfl | rfl
    · exact ⟨⟨2, 4, []⟩, by simp [wkD], rfl, by decide⟩
    · exact ⟨⟨3, 9, [9]⟩, by simp [wkD], rfl, by decide⟩
  · rintro ⟨x, hx, rfl, hl⟩
    simp only [wkD, List.mem_cons, List.not_mem_nil, or_false] at hx
    rcases hx with rfl | rfl | rfl
    · exact absurd (by decide) hl
    · simp
    · simp
theorem wk_uni : UniD wkD := by unfold UniD wkD; decide
def wkC (g : Nat) : List Cd := [⟨⟨1, 5, [2]⟩, .slice (some ⟨g, 0, none⟩) 1 1⟩, ⟨⟨2, 4, []⟩, .slice none 0 0⟩, ⟨⟨3, 9, [9]⟩, .slice (some ⟨g + 1, 0, none⟩) 1 1⟩]
def wkA (g : Nat) : Array Value := #[.int .u32 1, .int .u64 5, .slice (some ⟨g, 0, none⟩) 1 1, .int .u32 2, .int .u64 4, .slice none 0 0, .int .u32 3, .int .u64 9, .slice (some ⟨g + 1, 0, none⟩) 1 1]
theorem wk_rd (w : World) (g : Nat) (hg : g = w.heap.size) : RdC (((w.alloc (.cells #[.int .u32 2] 30)).alloc (.cells #[.int .u32 9] 30)).alloc (.cells (wkA g) 33)) (.slice (some ⟨g + 2, 0, none⟩) 3 3) (wkC g) := by
  subst hg
  have h1 := rd_lit ((w.alloc (.cells #[.int .u32 2] 30)).alloc (.cells #[.int .u32 9] 30)) 3 3 3 (wkA w.heap.size) 33 rfl (Nat.le_refl _) (by unfold maxLen; omega)
  have e : ((w.alloc (.cells #[.int .u32 2] 30)).alloc (.cells #[.int .u32 9] 30)).heap.size = w.heap.size + 2 := by simp
  rw [e] at h1
  refine ⟨h1, fun x hx => ?_⟩
  simp only [wkC, List.mem_cons, List.not_mem_nil, or_false] at hx
  rcases hx with rfl | rfl | rfl
  · exact Rd.ext (rd_lit w 1 1 1 #[.int .u32 2] 30 rfl (Nat.le_refl _) (by unfold maxLen; omega)) (gr_none (gr_alloc _ _ none) (gr_alloc _ _ none))
  · exact Rd.nil _ _
  · have h2 := rd_lit (w.alloc (.cells #[.int .u32 2] 30)) 1 1 1 #[.int .u32 9] 30 rfl (Nat.le_refl _) (by unfold maxLen; omega)
    have e2 : (w.alloc (.cells #[.int .u32 2] 30)).heap.size = w.heap.size + 1 := by simp
    rw [e2] at h2
    exact Rd.ext h2 (gr_alloc _ _ none)
set_option maxHeartbeats 2000000 in
theorem works_any (w : World) : Calls Try.prog 10 #[] w fun e w' => e = .returned (.bool true) ∧ w.grownBy w' none := by
  have hP := pick_any (.slice (some ⟨w.heap.size + 2, 0, none⟩) 3 3) (wkC w.heap.size) _ (wk_rd w _ rfl) (by simp [wkC]) (fun x hx => by
    simp only [wkC, List.mem_cons, List.not_mem_nil, or_false] at hx
    rcases hx with rfl | rfl | rfl <;> simp)
  have G0 : Hid (w.grownBy (((w.alloc (.cells #[.int .u32 2] 30)).alloc (.cells #[.int .u32 9] 30)).alloc (.cells (wkA w.heap.size) 33)) none) := gr_none (gr_none (gr_alloc _ _ none) (gr_alloc _ _ none)) (gr_alloc _ _ none)
  have HP := Lib.hid hP
  clear hP
  unfold wkA at HP G0
  go_enter Try.func10, Try.ntmps10
  go_wp2_with fail
  refine HP.out.mono ?_
  rintro e w1 ⟨⟨u, out, rfl, ho, hp⟩, g1⟩
  have e1 : out = [2, 3] := by
    have h2 : PickOf wkD out := PickOf.of_uni (by exact hp) wk_uni
    exact h2.same wk_pick
  subst e1
  obtain ⟨A, c, rfl⟩ := RdU.form (Own.rd ho)
  obtain ⟨g, off, hA, hcl⟩ := RdU.at_ (Own.rd ho)
  obtain rfl := hA (by simp)
  have c0 : w1.cell? ⟨g, off, none⟩ = some (.int .u32 2) := hcl 0 (by simp)
  have c1 : w1.cell? ⟨g, off + 1, none⟩ = some (.int .u32 3) := hcl 1 (by simp)
  have G1 := Lib.hid (gr_none G0.out g1)
  have hlen : ([2, 3] : List UInt32).length = 2 := rfl
  rw [hlen]
  clear ho hp g1 hcl hA HP
  go_wp2
  go_ret
  exact ⟨rfl, G1.out⟩
/-! keys -/
def RdK (w : World) (v : Value) (l : List UInt64) : Prop := RdG (fun x : UInt64 => [.int .u64 x.toNat]) 1 w v l
theorem RdK.ext {w w' : World} {v : Value} {l : List UInt64} (h : RdK w v l) (hg : w.grownBy w' none) : RdK w' v l := RdG.ext h hg
theorem RdK.form {w : World} {v : Value} {l : List UInt64} (h : RdK w v l) : ∃ A c, v = .slice A l.length c := RdG.form h
theorem RdK.at_ {w : World} {A : Option Addr} {c : Nat} {l : List UInt64} (h : RdK w (.slice A l.length c) l) : ∃ g off, (0 < l.length → A = some ⟨g, off, none⟩) ∧ ∀ i (hi : i < l.length), w.cell? ⟨g, off + i, none⟩ = some (.int .u64 l[i].toNat) := by
  obtain ⟨g, off, hA, _, hc⟩ := RdG.at_ (k := 1) (fun _ => rfl) h
  refine ⟨g, off, hA, fun i hi => ?_⟩
  have := hc i hi 0 (by omega)
  simpa using this
end Go.Proofs.Ytbdieifggciopaa
