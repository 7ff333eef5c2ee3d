/-
  The reference's sectors, and its Read.
-/
import Derived.Test.YtfbbbbekialpnaaJ2
namespace Go.Proofs.Ytfbbbbekialpnaa
open Go.RowKit
set_option maxRecDepth 100000
set_option maxHeartbeats 400000

theorem rdB_nil (w : World) : RdB w (.slice none 0 0) [] := Rd.nil w 1
/-- are two records the same? -/
def rcEq (x y : Rc) : Bool := (x.k.toNat : Int) == y.k.toNat && ((x.a.toNat : Int) == y.a.toNat && (x.b.toNat : Int) == y.b.toNat)
theorem rcEq_iff (x y : Rc) : rcEq x y = true ↔ x = y := by
  obtain ⟨a, b, c⟩ := x
  obtain ⟨a', b', c'⟩ := y
  simp only [rcEq, Bool.and_eq_true, beq_iff_eq, Rc.mk.injEq, Int.ofNat_inj, UInt32.toNat_inj]
theorem run_neqR (x y : Rc) (w : World) : (binOp .neq 58 (.agg x.cells) (.agg y.cells)).run Try.prog w = .ok (.bool (!rcEq x y)) w := by
  unfold Rc.cells
  rw [run_neq_struct]
  simp [go_sem]
  by_cases h1 : (x.k.toNat : Int) = y.k.toNat <;> by_cases h2 : (x.a.toNat : Int) = y.a.toNat <;> by_cases h3 : (x.b.toNat : Int) = y.b.toNat <;> simp [rcEq, h1, h2, h3]
theorem at3 {w wx : World} {g off : Nat} {l : List Rc} (hc : ∀ k (hk : k < l.length), ∀ j, j < 3 → w.cell? ⟨g, off + k * 3 + j, none⟩ = (l[k].cells)[j]?) (hg : w.grownBy wx none) {k : Nat} (hk : k < l.length) {a b c : UInt32} (e : l[k] = ⟨a, b, c⟩) :
    wx.cell? ⟨g, off + k * 3, none⟩ = some (.int .u32 a.toNat) ∧ wx.cell? ⟨g, off + k * 3 + 1, none⟩ = some (.int .u32 b.toNat) ∧ wx.cell? ⟨g, off + k * 3 + 2, none⟩ = some (.int .u32 c.toNat) := by
  have h0 := hc k hk 0 (by omega)
  have h1 := hc k hk 1 (by omega)
  have h2 := hc k hk 2 (by omega)
  rw [e] at h0 h1 h2
  exact ⟨hg.cell h0 (by simp), hg.cell h1 (by simp), hg.cell h2 (by simp)⟩
set_option maxHeartbeats 1000000 in
/-- do two lists hold the same records? -/
theorem same_any (v v' : Value) (l l' : List Rc) (w : World) (h : RdR w v l) (h' : RdR w v' l') (hn : l.length ≤ 1000000000) (hn' : l'.length ≤ 1000000000) :
    Calls Try.prog 44 #[v, v'] w fun e w' => (∃ b, e = .returned (.bool b) ∧ (b = true ↔ l = l')) ∧ w.grownBy w' none := by
  obtain ⟨A, c, rfl⟩ := h.form
  obtain ⟨A', c', rfl⟩ := h'.form
  obtain ⟨g, off, hA, _, _, hcells⟩ := h.at_
  obtain ⟨g', off', hA', _, _, hcells'⟩ := h'.at_
  have HA := Lib.hid hA
  have HC := Lib.hid hcells
  have HA' := Lib.hid hA'
  have HC' := Lib.hid hcells'
  clear hA hcells hA' hcells' h h'
  by_cases hl : l.length = l'.length
  · have hb : ((l.length : Int) != (l'.length : Int)) = false := by rw [bne_eq_false_iff_eq]; omega
    have hl1 : l.length ≤ l'.length := by omega
    have hl2 : l'.length ≤ l.length := by omega
    clear hl
    go_enter Try.func44, Try.ntmps44
    go_wp2
    go_loopw [5] (fun i wr => ∃ k : Nat, k ≤ l.length ∧ i = .int .i64 k ∧ l.take k = l'.take k ∧ w.grownBy wr none) (fun i _ => l.length - (intOf i).toNat)
    case atStart => exact ⟨0, by omega, rfl, by simp, gr_refl _ _⟩
    case round =>
      obtain ⟨k, hk, rfl, hall, hg⟩ := hrel
      have Hall := Lib.hid hall
      clear hall
      by_cases hlt : k < l.length
      · have hlt' : k < l'.length := by omega
        have := HA.out (by omega)
        subst this
        have := HA'.out (by omega)
        subst this
        rcases hx : l[k] with ⟨xa, xb, xc⟩
        rcases hy : l'[k] with ⟨ya, yb, yc⟩
        obtain ⟨c0, c1, c2⟩ := at3 HC.out hg hlt hx
        obtain ⟨d0, d1, d2⟩ := at3 HC'.out hg hlt' hy
        have Hx := Lib.hid hx
        have Hy := Lib.hid hy
        clear hx hy
        have hne := run_neqR ⟨xa, xb, xc⟩ ⟨ya, yb, yc⟩
        have Hiff := Lib.hid (rcEq_iff ⟨xa, xb, xc⟩ ⟨ya, yb, yc⟩)
        simp only [Rc.cells] at hne
        generalize rcEq ⟨xa, xb, xc⟩ ⟨ya, yb, yc⟩ = B at *
        cases B
        · have Hd : Hid (¬ l = l') := fun e => by
            have hxy := Hiff.out
            have e1 := Hx.out
            have e2 := Hy.out
            subst e
            rw [e1] at e2
            exact absurd (hxy.2 e2) (by simp)
          go_wp2_with fail
          go_quiet (fail)
          go_wp2
          go_ret
          exact ⟨⟨_, rfl, ⟨(fun h => by cases h), fun h => absurd h Hd.out⟩⟩, gr_none hg (gr_drewN _ _ _)⟩
        · have Hxy := Lib.hid (Hiff.out.1 rfl)
          clear Hiff
          go_wp2_with fail
          go_quiet (fail)
          go_wp2
          go_roundw
          case rel => exact ⟨k + 1, by omega, by go_num, by
            rw [List.take_succ_eq_append_getElem hlt, List.take_succ_eq_append_getElem hlt', Hall.out, Hx.out, Hy.out, Hxy.out], gr_none hg (gr_drewN _ _ _)⟩
          case measure => simp [intOf]; omega
      · obtain rfl : k = l.length := by omega
        have He : Hid (l = l') := by
          have := Hall.out
          rw [List.take_length, List.take_of_length_le hl2] at this
          exact this
        go_wp2
        go_ret
        exact ⟨⟨_, rfl, ⟨fun _ => He.out, fun _ => rfl⟩⟩, hg⟩
  · have hb : ((l.length : Int) != (l'.length : Int)) = true := by rw [bne_iff_ne]; omega
    have Hd : Hid (¬ l = l') := fun e => hl (by rw [e])
    clear hl
    go_enter Try.func44, Try.ntmps44
    go_wp2
    go_ret
    exact ⟨⟨_, rfl, ⟨(fun h => by cases h), fun h => absurd h Hd.out⟩⟩, gr_refl _ _⟩
theorem own_emptyR (w : World) (B : Nat) (hB : B ≤ w.heap.size) : OwnR (w.alloc (.cells #[] 58)) B (.slice (some ⟨w.heap.size, 0, none⟩) 0 0) [] :=
  own_lit w B 3 0 0 #[] _ (0, 0) (.inl (by simp)) rfl (Nat.le_refl _) (Nat.zero_le _) hB
theorem cloneR (v : Value) (l : List Rc) (w : World) (h : RdR w v l) (hn : l.length ≤ 1000000000) :
    Calls Try.prog 71 #[v] w fun e w' => (∃ v', e = .returned v' ∧ OwnR w' w.heap.size v' l) ∧ w.grownBy w' none := by
  have h0 := h
  obtain ⟨hl, A, c, g, off, rfl, hnc, hc, hA0, hA, hx⟩ := h
  clear hl hx
  have H0 := Lib.hid h0
  clear h0
  cases A with
  | none =>
    have hc0 := hA0 rfl
    have hnil := List.eq_nil_of_length_eq_zero (show l.length = 0 by omega)
    subst hc0 hnil
    have he : ∀ w, (binOp .eql 49 (.slice none 0 0) (.slice none 0 0)).run Try.prog w = .ok (.bool true) w := fun w => by kernel_rfl
    go_enter Try.func71, Try.ntmps71
    go_wp2
    go_ret
    exact ⟨⟨_, rfl, OwnR.nil _ _⟩, gr_refl _ _⟩
  | some a =>
    have he : ∀ (n : Nat) w, (binOp .eql 49 (.slice (some a) n c) (.slice none 0 0)).run Try.prog w = .ok (.bool false) w := fun n w => by kernel_rfl
    go_enter Try.func71, Try.ntmps71
    go_wp2_with (at_builtin; refine wp_appR (m := l) (l := []) rfl (.tmp 5) (.tmp 6) rfl rfl (own_emptyR _ _ (Nat.le_refl _)) rfl (Rd.alloc H0.out _) (by simp; omega) (by simp) ?_)
    intro v' w' h1 h2 h3
    go_wp2
    go_ret
    exact ⟨⟨_, rfl, by simpa using h1⟩, gr_trans (gr_alloc _ _ _) h2 (.inr (fun g e => by simp [Value.ownBlock] at e; omega))⟩
end Go.Proofs.Ytfbbbbekialpnaa
