/-
  lists of edges: copied, held against each other.
-/
import Derived.Test.YthckjpcknmmagaaDoorKeep
namespace Go.Proofs.YthckjpcknmmagaaDoor
open Go.RowKit
set_option maxRecDepth 100000
set_option maxHeartbeats 400000

theorem copyE_any (v : Value) (l : List Ed) (w : World) (h : RdE w v l) (hn : l.length ≤ 1000000000) :
    Calls Tryd.prog 7 #[v] w fun e w' => (∃ v', e = .returned v' ∧ OwnE w' w.heap.size v' l) ∧ w.grownBy w' none := by
  have R0 := Lib.hid h
  clear h
  go_enter Tryd.func7, Tryd.ntmps7
  go_wp2_with (at_builtin; refine wp_appE (l := []) rfl (.tmp 4) (.tmp 5) rfl rfl (OwnE.nil _ w.heap.size) rfl R0.out (by simp; omega) (Nat.le_refl _) ?_; intro v1 w1 h1 g1 a1)
  go_ret
  exact ⟨⟨_, rfl, h1⟩, g1⟩

/-- are two edges the same? -/
def edEq (x y : Ed) : Bool := (x.t.toNat : Int) == y.t.toNat && ((x.h.toNat : Int) == y.h.toNat && ((x.w.toNat : Int) == y.w.toNat && (x.m.toNat : Int) == y.m.toNat))
theorem edEq_iff (x y : Ed) : edEq x y = true ↔ x = y := by
  obtain ⟨a, b, c, d⟩ := x
  obtain ⟨a', b', c', d'⟩ := y
  simp only [edEq, Bool.and_eq_true, beq_iff_eq, Ed.mk.injEq, Int.ofNat_inj, UInt32.toNat_inj, UInt64.toNat_inj]
theorem run_eqlE (x y : Ed) (w : World) : (binOp .eql 29 x.v y.v).run Tryd.prog w = .ok (.bool (edEq x y)) w := by
  unfold Ed.v Ed.cells u32v u64v
  rw [run_eql_struct]
  simp [go_sem]
  by_cases h1 : (x.t.toNat : Int) = y.t.toNat <;> by_cases h2 : (x.h.toNat : Int) = y.h.toNat <;> by_cases h3 : (x.w.toNat : Int) = y.w.toNat <;> by_cases h4 : (x.m.toNat : Int) = y.m.toNat <;> simp [edEq, h1, h2, h3, h4]
theorem run_neqE (x y : Ed) (w : World) : (binOp .neq 29 x.v y.v).run Tryd.prog w = .ok (.bool (!edEq x y)) w := by
  unfold Ed.v Ed.cells u32v u64v
  rw [run_neq_struct]
  simp [go_sem]
  by_cases h1 : (x.t.toNat : Int) = y.t.toNat <;> by_cases h2 : (x.h.toNat : Int) = y.h.toNat <;> by_cases h3 : (x.w.toNat : Int) = y.w.toNat <;> by_cases h4 : (x.m.toNat : Int) = y.m.toNat <;> simp [edEq, h1, h2, h3, h4]
theorem eqE_any (v v' : Value) (l l' : List Ed) (w : World) (h : RdE w v l) (h' : RdE w v' l') (hn : l.length ≤ 1000000000) (hn' : l'.length ≤ 1000000000) :
    Calls Tryd.prog 9 #[v, v'] w fun e w' => (∃ b, e = .returned (.bool b) ∧ (b = true ↔ l = l')) ∧ w.grownBy w' none := by
  obtain ⟨A, c, rfl⟩ := h.form
  obtain ⟨A', c', rfl⟩ := h'.form
  obtain ⟨g, off, hA, hcells⟩ := h.at_
  obtain ⟨g', off', hA', hcells'⟩ := h'.at_
  have HA := Lib.hid hA
  have HC := Lib.hid hcells
  have HA' := Lib.hid hA'
  have HC' := Lib.hid hcells'
  clear hA hcells hA' hcells' h h'
  by_cases hl : l.length = l'.length
  · have hb : ((l.length : Int) != (l'.length : Int)) = false := by rw [bne_eq_false_iff_eq]; omega
    have hl1 : l.length ≤ l'.length := by omega
    have hl2 : l'.length ≤ l.length := by omega
    clear hl
    go_enter Tryd.func9, Tryd.ntmps9
    go_wp2
    go_loopw [5] (fun i wr => ∃ k : Nat, k ≤ l.length ∧ i = .int .i64 k ∧ l.take k = l'.take k ∧ w.grownBy wr none) (fun i _ => l.length - (intOf i).toNat)
    case atStart => exact ⟨0, by omega, rfl, by simp, gr_refl _ _⟩
    case round =>
      obtain ⟨k, hk, rfl, hall, hg⟩ := hrel
      have Hall := Lib.hid hall
      clear hall
      by_cases hlt : k < l.length
      · have hlt' : k < l'.length := by omega
        have := HA.out (by omega)
        subst this
        have := HA'.out (by omega)
        subst this
        rcases hx : l[k] with ⟨xt, xh, xw, xm⟩
        rcases hy : l'[k] with ⟨yt, yh, yw, ym⟩
        obtain ⟨c0, c1, c2, c3⟩ := at4 HC.out hg hlt hx
        obtain ⟨d0, d1, d2, d3⟩ := at4 HC'.out hg hlt' hy
        have Hx := Lib.hid hx
        have Hy := Lib.hid hy
        clear hx hy
        have hne := run_neqE ⟨xt, xh, xw, xm⟩ ⟨yt, yh, yw, ym⟩
        have Hiff := Lib.hid (edEq_iff ⟨xt, xh, xw, xm⟩ ⟨yt, yh, yw, ym⟩)
        simp only [Ed.v, Ed.cells, u32v, u64v] at hne
        generalize edEq ⟨xt, xh, xw, xm⟩ ⟨yt, yh, yw, ym⟩ = B at *
        cases B
        · have Hd : Hid (¬ l = l') := fun e => by
            have hxy := Hiff.out
            have e1 := Hx.out
            have e2 := Hy.out
            subst e
            rw [e1] at e2
            exact absurd (hxy.2 e2) (by simp)
          go_wp2_with fail
          go_quiet (fail)
          go_wp2
          go_ret
          exact ⟨⟨_, rfl, ⟨(fun h => by cases h), fun h => absurd h Hd.out⟩⟩, gr_none hg (gr_drewN _ _ _)⟩
        · have Hxy := Lib.hid (Hiff.out.1 rfl)
          clear Hiff
          go_wp2_with fail
          go_quiet (fail)
          go_wp2
          go_roundw
          case rel => exact ⟨k + 1, by omega, by go_num, by
            rw [List.take_succ_eq_append_getElem hlt, List.take_succ_eq_append_getElem hlt', Hall.out, Hx.out, Hy.out, Hxy.out], gr_none hg (gr_drewN _ _ _)⟩
          case measure => simp [intOf]; omega
      · obtain rfl : k = l.length := by omega
        have He : Hid (l = l') := by
          have := Hall.out
          rw [List.take_length, List.take_of_length_le hl2] at this
          exact this
        go_wp2
        go_ret
        exact ⟨⟨_, rfl, ⟨fun _ => He.out, fun _ => rfl⟩⟩, hg⟩
  · have hb : ((l.length : Int) != (l'.length : Int)) = true := by rw [bne_iff_ne]; omega
    have Hd : Hid (¬ l = l') := fun e => hl (by rw [e])
    clear hl
    go_enter Tryd.func9, Tryd.ntmps9
    go_wp2
    go_ret
    exact ⟨⟨_, rfl, ⟨(fun h => by cases h), fun h => absurd h Hd.out⟩⟩, gr_refl _ _⟩
end Go.Proofs.YthckjpcknmmagaaDoor
