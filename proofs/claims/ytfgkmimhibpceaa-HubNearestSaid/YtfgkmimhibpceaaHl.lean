/-
  Hub: labels, edges and shelves in memory; the small functions.
-/
import Derived.Test.YtfgkmimhibpceaaB
import Derived.Test.YtfgkmimhibpceaaVm
import Derived.Shelf.Spec.BitsCarry
import Derived.Shelf.Abstract
namespace Go.Proofs
open Go.Shelf
def Try.lays25_ren : Go.Shelf.Ren := ⟨fun | 25 => 43 | n => n, fun | 55 => 37 | n => n, fun | n => n⟩
end Go.Proofs
namespace Go.Proofs.Ytfgkmimhibpceaa
open Go.RowKit
set_option maxRecDepth 100000
set_option maxHeartbeats 400000

/-! rows of structs -/
section
variable {α : Type} {enc : α → List Value} {k : Nat}
theorem flat_len (hk : ∀ x, (enc x).length = k) (l : List α) : (l.flatMap enc).length = l.length * k := by
  induction l with
  | nil => simp
  | cons a l ih => rw [List.flatMap_cons, List.length_append, hk, ih, List.length_cons, Nat.add_mul]; omega
theorem flat_at (hk : ∀ x, (enc x).length = k) (l : List α) {i j : Nat} (hi : i < l.length) (hj : j < k) : (l.flatMap enc)[i * k + j]? = (enc l[i])[j]? := by
  induction l generalizing i with
  | nil => simp at hi
  | cons a l ih =>
    rw [List.flatMap_cons]
    cases i with
    | zero => rw [Nat.zero_mul, Nat.zero_add, List.getElem?_append_left (by rw [hk]; exact hj)]; rfl
    | succ i =>
      rw [List.getElem?_append_right (by rw [hk, Nat.add_mul]; omega), hk, show (i + 1) * k + j - k = i * k + j from by rw [Nat.add_mul]; omega]
      exact ih (by simpa using hi)
/-- a slice that reads as rows. -/
def RdG (enc : α → List Value) (k : Nat) (w : World) (v : Value) (l : List α) : Prop := Rd w k v l.length (l.flatMap enc)
def OwnG (enc : α → List Value) (k : Nat) (w : World) (B : Nat) (v : Value) (l : List α) : Prop := Own w B k v l.length (l.flatMap enc)
variable {w w' : World} {B : Nat} {v : Value} {l : List α}
theorem OwnG.rd (h : OwnG enc k w B v l) : RdG enc k w v l := Own.rd h
theorem RdG.ext (h : RdG enc k w v l) (hg : w.grownBy w' none) : RdG enc k w' v l := Rd.ext h hg
theorem OwnG.ext (h : OwnG enc k w B v l) (hg : w.grownBy w' none) : OwnG enc k w' B v l := Own.ext h hg
theorem OwnG.mono {B' : Nat} (h : OwnG enc k w B v l) (hB : B' ≤ B) : OwnG enc k w B' v l := Own.mono h hB
theorem RdG.form (h : RdG enc k w v l) : ∃ A c, v = .slice A l.length c := by obtain ⟨_, A, c, _, _, e, _⟩ := h; exact ⟨A, c, e⟩
theorem RdG.nil (enc : α → List Value) (k : Nat) (w : World) : RdG enc k w (.slice none 0 0) [] := Rd.nil _ _
theorem OwnG.nil (enc : α → List Value) (k : Nat) (w : World) (B : Nat) : OwnG enc k w B (.slice none 0 0) [] := Own.nil _ _ _
theorem RdG.at_ (hk : ∀ x, (enc x).length = k) {A : Option Addr} {c : Nat} (h : RdG enc k w (.slice A l.length c) l) : ∃ g off, (0 < l.length → A = some ⟨g, off, none⟩) ∧ l.length ≤ c ∧ ∀ i (hi : i < l.length), ∀ j, j < k → w.cell? ⟨g, off + i * k + j, none⟩ = (enc l[i])[j]? := by
  obtain ⟨_, _, _, g, off, e, hn, hc, _, hA, hx⟩ := h
  cases e
  refine ⟨g, off, fun h0 => hA (by omega), hn, fun i hi j hj => ?_⟩
  have hij : i * k + j < l.length * k := by
    have : (i + 1) * k ≤ l.length * k := Nat.mul_le_mul_right k hi
    rw [Nat.add_mul] at this; omega
  rw [Nat.add_assoc, hx _ hij, flat_at hk l hi hj]
end
/-! labels -/
structure Lb where
  hub : UInt32
  next : UInt32
  dist : UInt64
def Lb.enc (x : Lb) : List Value := [.int .u32 x.hub.toNat, .int .u32 x.next.toNat, .int .u64 x.dist.toNat]
def Lb.v (x : Lb) : Value := .agg #[.int .u32 x.hub.toNat, .int .u32 x.next.toNat, .int .u64 x.dist.toNat]
abbrev RdL := RdG Lb.enc 3
abbrev OwnL := OwnG Lb.enc 3
theorem lb3 (x : Lb) : x.enc.length = 3 := rfl
theorem Try.infoL : (Try.prog.info? 39).map (fun i => (i.zero, i.size, i.bytes)) = some (some (.agg #[.int .u32 0, .int .u32 0, .int .u64 0]), 3, 16) := by kernel_rfl
theorem lb_one (l : List Lb) : ∀ u ∈ l.flatMap Lb.enc, u.oneCell' = true := by
  intro u hu
  obtain ⟨r, _, h⟩ := List.mem_flatMap.1 hu
  simp [Lb.enc] at h
  rcases h with rfl | rfl | rfl <;> rfl
theorem at3L {w wx : World} {g off : Nat} {l : List Lb} (hc : ∀ k (hk : k < l.length), ∀ j, j < 3 → w.cell? ⟨g, off + k * 3 + j, none⟩ = (l[k].enc)[j]?) (hg : w.grownBy wx none) {k : Nat} (hk : k < l.length) {a b : UInt32} {c : UInt64} (e : l[k] = ⟨a, b, c⟩) :
    wx.cell? ⟨g, off + k * 3, none⟩ = some (.int .u32 a.toNat) ∧ wx.cell? ⟨g, off + k * 3 + 1, none⟩ = some (.int .u32 b.toNat) ∧ wx.cell? ⟨g, off + k * 3 + 2, none⟩ = some (.int .u64 c.toNat) := by
  have h0 := hc k hk 0 (by omega)
  have h1 := hc k hk 1 (by omega)
  have h2 := hc k hk 2 (by omega)
  rw [e] at h0 h1 h2
  exact ⟨hg.cell h0 (by simp), hg.cell h1 (by simp), hg.cell h2 (by simp)⟩
theorem ownL_app {w : World} {B : Nat} {v : Value} {l m : List Lb} (h : Own w B 3 v (l.length + m.length) (l.flatMap Lb.enc ++ m.flatMap Lb.enc)) : OwnL w B v (l ++ m) := by
  unfold OwnL OwnG; rw [List.length_append, List.flatMap_append]; exact h
/-- append(v, x...) of labels. -/
theorem wp_appL {ops : Array Oper} {rest : List Oper} {o : Oper} {a : Act} {Q : Exit → Act → World → Prop} {w : World} (hgd : o.guard = none) (s0 x0 : Operand)
    (ho : o.op = .call { callee := .builtin .append, args := #[s0, x0], argTypes := #[31, 31] }) {B : Nat} {v x : Value} {l m : List Lb} (hs : a.eval s0 = v) (hown : OwnL w B v l)
    (hx : a.eval x0 = x) (hr : RdL w x m) (hn : l.length + m.length ≤ 1000000000) (hB : B ≤ w.heap.size)
    (h : ∀ v' w', OwnL w' B v' (l ++ m) → w.grownBy w' v.ownBlock → (v'.ownBlock = v.ownBlock ∨ ∃ k, v'.ownBlock = some k ∧ w.heap.size ≤ k) → wpList Try.prog ops Q rest (a.put o.dst v') w') :
    wpList Try.prog ops Q (o :: rest) a w :=
  wp_app w hgd s0 x0 _ ho B 39 _ 3 16 Try.underlying31 Try.infoL rfl (by omega) v _ _ hs hown x _ _ hx hr (lb_one m) (by unfold maxLen; omega) (by omega) hB
    fun v' w' h1 h2 h3 => h v' w' (ownL_app h1) h2 h3
/-- append(v, x), x one label that was laid just ahead. -/
theorem wp_app1L {ops : Array Oper} {rest : List Oper} {o : Oper} {a : Act} {Q : Exit → Act → World → Prop} {w : World} (r : Lb) (C : Array Value) (hC : C.toList = r.enc) (hgd : o.guard = none) (s0 x0 : Operand)
    (ho : o.op = .call { callee := .builtin .append, args := #[s0, x0], argTypes := #[31, 31] }) {B : Nat} {v : Value} {l : List Lb} (hs : a.eval s0 = v) (hown : OwnL w B v l)
    (g : Nat) (hx : a.eval x0 = .slice (some ⟨g, 0, none⟩) 1 1) (hg : g = w.heap.size) (hn : l.length ≤ 1000000000) (hB : B ≤ w.heap.size)
    (h : ∀ v' w', OwnL w' B v' (l ++ [r]) → w.grownBy w' v.ownBlock → (v'.ownBlock = v.ownBlock ∨ ∃ k, v'.ownBlock = some k ∧ w.heap.size ≤ k) → wpList Try.prog ops Q rest (a.put o.dst v') w') :
    wpList Try.prog ops Q (o :: rest) a (w.alloc (.cells C 39)) := by
  subst hg
  have he : [r].flatMap Lb.enc = C.toList := by simp [hC]
  have hC3 : C.size = 3 := by rw [← Array.length_toList, hC]; rfl
  exact wp_app1 w C hgd s0 x0 _ ho B 39 _ 3 16 Try.underlying31 Try.infoL rfl (by omega) v _ _ hs hown hx hC3 (by rw [← he]; exact lb_one [r]) (by unfold maxLen; omega) (by omega) hB
    fun v' w' h1 h2 h3 => h v' w' (ownL_app (m := [r]) (by rw [he]; exact h1)) h2 h3
def lbEq (x y : Lb) : Bool := (x.hub.toNat : Int) == y.hub.toNat && ((x.next.toNat : Int) == y.next.toNat && (x.dist.toNat : Int) == y.dist.toNat)
theorem lbEq_iff (x y : Lb) : lbEq x y = true ↔ x = y := by
  obtain ⟨a, b, c⟩ := x
  obtain ⟨a', b', c'⟩ := y
  simp only [lbEq, Bool.and_eq_true, beq_iff_eq, Lb.mk.injEq, Int.ofNat_inj, UInt32.toNat_inj, UInt64.toNat_inj]
theorem run_neqL (x y : Lb) (w : World) : (binOp .neq 39 x.v y.v).run Try.prog w = .ok (.bool (!lbEq x y)) w := by
  unfold Lb.v
  rw [run_neq_struct]
  simp [go_sem]
  by_cases h1 : (x.hub.toNat : Int) = y.hub.toNat <;> by_cases h2 : (x.next.toNat : Int) = y.next.toNat <;> by_cases h3 : (x.dist.toNat : Int) = y.dist.toNat <;> simp [lbEq, h1, h2, h3]
theorem run_eqlL (x y : Lb) (w : World) : (binOp .eql 39 x.v y.v).run Try.prog w = .ok (.bool (lbEq x y)) w := by
  unfold Lb.v
  rw [run_eql_struct]
  simp [go_sem]
  by_cases h1 : (x.hub.toNat : Int) = y.hub.toNat <;> by_cases h2 : (x.next.toNat : Int) = y.next.toNat <;> by_cases h3 : (x.dist.toNat : Int) = y.dist.toNat <;> simp [lbEq, h1, h2, h3]
set_option maxHeartbeats 1000000 in
theorem eqL_any (v v' : Value) (l l' : List Lb) (w : World) (h : RdL w v l) (h' : RdL w v' l') (hn : l.length ≤ 1000000000) (hn' : l'.length ≤ 1000000000) :
    Calls Try.prog 16 #[v, v'] w fun e w' => (∃ b, e = .returned (.bool b) ∧ (b = true ↔ l = l')) ∧ w.grownBy w' none := by
  obtain ⟨A, c, rfl⟩ := h.form
  obtain ⟨A', c', rfl⟩ := h'.form
  obtain ⟨g, off, hA, _, hcells⟩ := h.at_ lb3
  obtain ⟨g', off', hA', _, hcells'⟩ := h'.at_ lb3
  have HA := Lib.hid hA
  have HC := Lib.hid hcells
  have HA' := Lib.hid hA'
  have HC' := Lib.hid hcells'
  clear hA hcells hA' hcells' h h'
  by_cases hl : l.length = l'.length
  · have hb : ((l.length : Int) != (l'.length : Int)) = false := by rw [bne_eq_false_iff_eq]; omega
    have hl1 : l.length ≤ l'.length := by omega
    have hl2 : l'.length ≤ l.length := by omega
    clear hl
    go_enter Try.func16, Try.ntmps16
    go_wp2
    go_loopw [5] (fun i wr => ∃ k : Nat, k ≤ l.length ∧ i = .int .i64 k ∧ l.take k = l'.take k ∧ w.grownBy wr none) (fun i _ => l.length - (intOf i).toNat)
    case atStart => exact ⟨0, by omega, rfl, by simp, gr_refl _ _⟩
    case round =>
      obtain ⟨k, hk, rfl, hall, hg⟩ := hrel
      have Hall := Lib.hid hall
      clear hall
      by_cases hlt : k < l.length
      · have hlt' : k < l'.length := by omega
        have := HA.out (by omega)
        subst this
        have := HA'.out (by omega)
        subst this
        rcases hx : l[k] with ⟨xa, xb, xc⟩
        rcases hy : l'[k] with ⟨ya, yb, yc⟩
        obtain ⟨c0, c1, c2⟩ := at3L HC.out hg hlt hx
        obtain ⟨d0, d1, d2⟩ := at3L HC'.out hg hlt' hy
        have Hx := Lib.hid hx
        have Hy := Lib.hid hy
        clear hx hy
        have hne := run_neqL ⟨xa, xb, xc⟩ ⟨ya, yb, yc⟩
        have Hiff := Lib.hid (lbEq_iff ⟨xa, xb, xc⟩ ⟨ya, yb, yc⟩)
        simp only [Lb.v] at hne
        generalize lbEq ⟨xa, xb, xc⟩ ⟨ya, yb, yc⟩ = B at *
        cases B
        · have Hd : Hid (¬ l = l') := fun e => by
            have hxy := Hiff.out
            have e1 := Hx.out
            have e2 := Hy.out
            subst e
            rw [e1] at e2
            exact absurd (hxy.2 e2) (by simp)
          go_wp2_with fail
          go_quiet (fail)
          go_wp2
          go_ret
          exact ⟨⟨_, rfl, ⟨(fun h => by cases h), fun h => absurd h Hd.out⟩⟩, gr_none hg (gr_drewN _ _ _)⟩
        · have Hxy := Lib.hid (Hiff.out.1 rfl)
          clear Hiff
          go_wp2_with fail
          go_quiet (fail)
          go_wp2
          go_roundw
          case rel => exact ⟨k + 1, by omega, by go_num, by
            rw [List.take_succ_eq_append_getElem hlt, List.take_succ_eq_append_getElem hlt', Hall.out, Hx.out, Hy.out, Hxy.out], gr_none hg (gr_drewN _ _ _)⟩
          case measure => simp [intOf]; omega
      · obtain rfl : k = l.length := by omega
        have He : Hid (l = l') := by
          have := Hall.out
          rw [List.take_length, List.take_of_length_le hl2] at this
          exact this
        go_wp2
        go_ret
        exact ⟨⟨_, rfl, ⟨fun _ => He.out, fun _ => rfl⟩⟩, hg⟩
  · have hb : ((l.length : Int) != (l'.length : Int)) = true := by rw [bne_iff_ne]; omega
    have Hd : Hid (¬ l = l') := fun e => hl (by rw [e])
    clear hl
    go_enter Try.func16, Try.ntmps16
    go_wp2
    go_ret
    exact ⟨⟨_, rfl, ⟨(fun h => by cases h), fun h => absurd h Hd.out⟩⟩, gr_refl _ _⟩
theorem copied_any (v : Value) (l : List Lb) (w : World) (h : RdL w v l) (hn : l.length ≤ 1000000000) :
    Calls Try.prog 19 #[v] w fun e w' => (∃ v', e = .returned v' ∧ OwnL w' w.heap.size v' l) ∧ w.grownBy w' none := by
  have R0 := Lib.hid h
  clear h
  go_enter Try.func19, Try.ntmps19
  go_wp2_with (at_builtin; refine wp_appL (l := []) rfl (.tmp 4) (.tmp 5) rfl rfl (OwnG.nil _ _ _ w.heap.size) rfl R0.out (by simp; omega) (Nat.le_refl _) ?_; intro v1 w1 h1 g1 a1)
  go_ret
  exact ⟨⟨_, rfl, h1⟩, g1⟩
end Go.Proofs.Ytfgkmimhibpceaa
