/-
  Edges in memory: append, Eq, Copy.
-/
import Derived.Test.YthckjpcknmmagaaDoorRg
import Derived.Laws.StructEq
namespace Go.Proofs.YthckjpcknmmagaaDoor.R
open Go.RowKit
set_option maxRecDepth 100000
set_option maxHeartbeats 400000

structure Ed where
  t : UInt32
  h : UInt32
  w : UInt64
  m : UInt32
def Ed.enc (e : Ed) : List Value := [.int .u32 e.t.toNat, .int .u32 e.h.toNat, .int .u64 e.w.toNat, .int .u32 e.m.toNat]
def Ed.v (e : Ed) : Value := .agg #[.int .u32 e.t.toNat, .int .u32 e.h.toNat, .int .u64 e.w.toNat, .int .u32 e.m.toNat]
abbrev RdE := RdG Ed.enc 4
abbrev OwnE := OwnG Ed.enc 4
theorem ed4 (x : Ed) : x.enc.length = 4 := rfl
theorem Tryd.infoE : (Tryd.prog.info? 29).map (fun i => (i.zero, i.size, i.bytes)) = some (some (.agg #[.int .u32 0, .int .u32 0, .int .u64 0, .int .u32 0]), 4, 24) := by kernel_rfl
theorem ed_one (l : List Ed) : ∀ u ∈ l.flatMap Ed.enc, u.oneCell' = true := by
  intro u hu
  obtain ⟨r, _, h⟩ := List.mem_flatMap.1 hu
  simp [Ed.enc] at h
  rcases h with rfl | rfl | rfl | rfl <;> rfl
theorem at4E {w wx : World} {g off : Nat} {l : List Ed} (hc : ∀ k (hk : k < l.length), ∀ j, j < 4 → w.cell? ⟨g, off + k * 4 + j, none⟩ = (l[k].enc)[j]?) (hg : w.grownBy wx none) {k : Nat} (hk : k < l.length) {a b d : UInt32} {c : UInt64} (e : l[k] = ⟨a, b, c, d⟩) :
    wx.cell? ⟨g, off + k * 4, none⟩ = some (.int .u32 a.toNat) ∧ wx.cell? ⟨g, off + k * 4 + 1, none⟩ = some (.int .u32 b.toNat) ∧ wx.cell? ⟨g, off + k * 4 + 2, none⟩ = some (.int .u64 c.toNat) ∧ wx.cell? ⟨g, off + k * 4 + 3, none⟩ = some (.int .u32 d.toNat) := by
  have h0 := hc k hk 0 (by omega)
  have h1 := hc k hk 1 (by omega)
  have h2 := hc k hk 2 (by omega)
  have h3 := hc k hk 3 (by omega)
  rw [e] at h0 h1 h2 h3
  exact ⟨hg.cell h0 (by simp), hg.cell h1 (by simp), hg.cell h2 (by simp), hg.cell h3 (by simp)⟩
theorem ownE_app {w : World} {B : Nat} {v : Value} {l m : List Ed} (h : Own w B 4 v (l.length + m.length) (l.flatMap Ed.enc ++ m.flatMap Ed.enc)) : OwnE w B v (l ++ m) := by
  unfold OwnE OwnG; rw [List.length_append, List.flatMap_append]; exact h
/-- append(v, x...) of edges. -/
theorem wp_appE {ops : Array Oper} {rest : List Oper} {o : Oper} {a : Act} {Q : Exit → Act → World → Prop} {w : World} (hgd : o.guard = none) (s0 x0 : Operand)
    (ho : o.op = .call { callee := .builtin .append, args := #[s0, x0], argTypes := #[22, 22] }) {B : Nat} {v x : Value} {l m : List Ed} (hs : a.eval s0 = v) (hown : OwnE w B v l)
    (hx : a.eval x0 = x) (hr : RdE w x m) (hn : l.length + m.length ≤ 1000000000) (hB : B ≤ w.heap.size)
    (h : ∀ v' w', OwnE w' B v' (l ++ m) → w.grownBy w' v.ownBlock → (v'.ownBlock = v.ownBlock ∨ ∃ k, v'.ownBlock = some k ∧ w.heap.size ≤ k) → wpList Tryd.prog ops Q rest (a.put o.dst v') w') :
    wpList Tryd.prog ops Q (o :: rest) a w :=
  wp_app w hgd s0 x0 _ ho B 29 _ 4 24 Tryd.underlying22 Tryd.infoE rfl (by omega) v _ _ hs hown x _ _ hx hr (ed_one m) (by unfold maxLen; omega) (by omega) hB
    fun v' w' h1 h2 h3 => h v' w' (ownE_app h1) h2 h3
def edEq (x y : Ed) : Bool := (x.t.toNat : Int) == y.t.toNat && ((x.h.toNat : Int) == y.h.toNat && ((x.w.toNat : Int) == y.w.toNat && (x.m.toNat : Int) == y.m.toNat))
theorem edEq_iff (x y : Ed) : edEq x y = true ↔ x = y := by
  obtain ⟨a, b, c, d⟩ := x
  obtain ⟨a', b', c', d'⟩ := y
  simp only [edEq, Bool.and_eq_true, beq_iff_eq, Ed.mk.injEq, Int.ofNat_inj, UInt32.toNat_inj, UInt64.toNat_inj]
theorem run_neqE (x y : Ed) (w : World) : (binOp .neq 29 x.v y.v).run Tryd.prog w = .ok (.bool (!edEq x y)) w := by
  unfold Ed.v
  rw [run_neq_struct]
  simp [go_sem]
  by_cases h1 : (x.t.toNat : Int) = y.t.toNat <;> by_cases h2 : (x.h.toNat : Int) = y.h.toNat <;> by_cases h3 : (x.w.toNat : Int) = y.w.toNat <;> by_cases h4 : (x.m.toNat : Int) = y.m.toNat <;> simp [edEq, h1, h2, h3, h4]
set_option maxHeartbeats 1000000 in
theorem eqE_any (v v' : Value) (l l' : List Ed) (w : World) (h : RdE w v l) (h' : RdE w v' l') (hn : l.length ≤ 1000000000) (hn' : l'.length ≤ 1000000000) :
    Calls Tryd.prog 9 #[v, v'] w fun e w' => (∃ b, e = .returned (.bool b) ∧ (b = true ↔ l = l')) ∧ w.grownBy w' none := by
  obtain ⟨A, c, rfl⟩ := h.form
  obtain ⟨A', c', rfl⟩ := h'.form
  obtain ⟨g, off, hA, _, hcells⟩ := h.at_ ed4
  obtain ⟨g', off', hA', _, hcells'⟩ := h'.at_ ed4
  have HA := Lib.hid hA
  have HC := Lib.hid hcells
  have HA' := Lib.hid hA'
  have HC' := Lib.hid hcells'
  clear hA hcells hA' hcells' h h'
  by_cases hl : l.length = l'.length
  · have hb : ((l.length : Int) != (l'.length : Int)) = false := by rw [bne_eq_false_iff_eq]; omega
    have hl1 : l.length ≤ l'.length := by omega
    have hl2 : l'.length ≤ l.length := by omega
    clear hl
    go_enter Tryd.func9, Tryd.ntmps9
    go_wp2
    go_loopw [5] (fun i wr => ∃ k : Nat, k ≤ l.length ∧ i = .int .i64 k ∧ l.take k = l'.take k ∧ w.grownBy wr none) (fun i _ => l.length - (intOf i).toNat)
    case atStart => exact ⟨0, by omega, rfl, by simp, gr_refl _ _⟩
    case round =>
      obtain ⟨k, hk, rfl, hall, hg⟩ := hrel
      have Hall := Lib.hid hall
      clear hall
      by_cases hlt : k < l.length
      · have hlt' : k < l'.length := by omega
        have := HA.out (by omega)
        subst this
        have := HA'.out (by omega)
        subst this
        rcases hx : l[k] with ⟨xa, xb, xc, xd⟩
        rcases hy : l'[k] with ⟨ya, yb, yc, yd⟩
        obtain ⟨c0, c1, c2, c3⟩ := at4E HC.out hg hlt hx
        obtain ⟨d0, d1, d2, d3⟩ := at4E HC'.out hg hlt' hy
        have Hx := Lib.hid hx
        have Hy := Lib.hid hy
        clear hx hy
        have hne := run_neqE ⟨xa, xb, xc, xd⟩ ⟨ya, yb, yc, yd⟩
        have Hiff := Lib.hid (edEq_iff ⟨xa, xb, xc, xd⟩ ⟨ya, yb, yc, yd⟩)
        simp only [Ed.v] at hne
        generalize edEq ⟨xa, xb, xc, xd⟩ ⟨ya, yb, yc, yd⟩ = B at *
        cases B
        · have Hd : Hid (¬ l = l') := fun e => by
            have hxy := Hiff.out
            have e1 := Hx.out
            have e2 := Hy.out
            subst e
            rw [e1] at e2
            exact absurd (hxy.2 e2) (by simp)
          go_wp2_with fail
          go_quiet (fail)
          go_wp2
          go_ret
          exact ⟨⟨_, rfl, ⟨(fun h => by cases h), fun h => absurd h Hd.out⟩⟩, gr_none hg (gr_drewN _ _ _)⟩
        · have Hxy := Lib.hid (Hiff.out.1 rfl)
          clear Hiff
          go_wp2_with fail
          go_quiet (fail)
          go_wp2
          go_roundw
          case rel => exact ⟨k + 1, by omega, by go_num, by
            rw [List.take_succ_eq_append_getElem hlt, List.take_succ_eq_append_getElem hlt', Hall.out, Hx.out, Hy.out, Hxy.out], gr_none hg (gr_drewN _ _ _)⟩
          case measure => simp [intOf]; omega
      · obtain rfl : k = l.length := by omega
        have He : Hid (l = l') := by
          have := Hall.out
          rw [List.take_length, List.take_of_length_le hl2] at this
          exact this
        go_wp2
        go_ret
        exact ⟨⟨_, rfl, ⟨fun _ => He.out, fun _ => rfl⟩⟩, hg⟩
  · have hb : ((l.length : Int) != (l'.length : Int)) = true := by rw [bne_iff_ne]; omega
    have Hd : Hid (¬ l = l') := fun e => hl (by rw [e])
    clear hl
    go_enter Tryd.func9, Tryd.ntmps9
    go_wp2
    go_ret
    exact ⟨⟨_, rfl, ⟨(fun h => by cases h), fun h => absurd h Hd.out⟩⟩, gr_refl _ _⟩
theorem copyE_any (v : Value) (l : List Ed) (w : World) (h : RdE w v l) (hn : l.length ≤ 1000000000) :
    Calls Tryd.prog 7 #[v] w fun e w' => (∃ v', e = .returned v' ∧ OwnE w' w.heap.size v' l) ∧ w.grownBy w' none := by
  have R0 := Lib.hid h
  clear h
  go_enter Tryd.func7, Tryd.ntmps7
  go_wp2_with (at_builtin; refine wp_appE (l := []) rfl (.tmp 4) (.tmp 5) rfl rfl (OwnG.nil _ _ _ w.heap.size) rfl R0.out (by simp; omega) (Nat.le_refl _) ?_; intro v1 w1 h1 g1 a1)
  go_ret
  exact ⟨⟨_, rfl, h1⟩, g1⟩
end Go.Proofs.YthckjpcknmmagaaDoor.R
