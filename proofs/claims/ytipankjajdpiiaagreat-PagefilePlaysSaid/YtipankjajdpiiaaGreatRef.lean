/-
  More words of memory: append of noughts, copy, what a write leaves as it was.
-/
import Derived.Test.YtipankjajdpiiaaGreatOct
import Derived.Test.YtipankjajdpiiaaGreatRg
namespace Go.Proofs.YtipankjajdpiiaaGreat
open Go.RowKit
set_option maxRecDepth 100000
set_option maxHeartbeats 400000

/-- a write onto a slice of the call's own: its block alone is struck, and the longer one stands there or in a new one. -/
def Ext0 (w w' : World) (v u : Value) : Prop :=
  ∃ r, w.grownBy w' r ∧ (∀ k, r = some k → blk v = some k) ∧ ∀ k, blk u = some k → blk v = some k ∨ w.heap.size ≤ k
theorem ext0_refl (w : World) (v : Value) : Ext0 w w v v := ⟨none, gr_refl _ _, fun _ e => (by cases e), fun _ e => .inl e⟩
theorem zeroCells_one (z : Value) (n : Nat) : (Builtin.zeroCells #[z] n).toList = List.replicate n z := by
  apply List.ext_getElem
  · simp [Builtin.zeroCells]
  · intro i h1 h2
    simp [Builtin.zeroCells, Nat.mod_one]
theorem blk_none_of {A : Option Addr} {n c : Nat} (h : c = 0) : blk (.slice A n c) = none := by
  cases A with
  | none => rfl
  | some a => exact if_pos h
theorem blk_some_of {a : Addr} {n c : Nat} (h : 0 < c) : blk (.slice (some a) n c) = some a.block := if_neg (by omega)
theorem own_grow {w : World} {B m : Nat} {v : Value} {l : List UInt8} (e : TypeId) (hm : l.length ≤ m) (hmx : m ≤ maxLen) (hB : B ≤ w.heap.size) (cs : Array Value) (hcs : cs.size = m) (hcl : cs.toList.take l.length = l.map u8v) (hv : v = .slice (some ⟨w.heap.size, 0, none⟩) l.length m) :
    OwnB (w.drew.alloc (.cells cs e)) B v l := by
  subst hv
  have := own_lit w.drew B 1 l.length m cs e (0, 0) (.inr (Nat.le_refl _)) (by omega) hm hmx hB
  rw [Nat.mul_one, hcl] at this
  exact this
theorem run_appZ (w : World) (ty : TypeId) (B : Nat) (v : Value) (l : List UInt8) (hown : OwnB w B v l) (m : Nat) (hm : l.length + m ≤ 70000000000000) (hB : B ≤ w.heap.size) :
    ∃ v' w', (Builtin.append_ #[40, 3] ty #[v, .int .i64 m]).run Tryz.prog w = .ok v' w' ∧ OwnB w' B v' (l ++ List.replicate m 0) ∧ Ext0 w w' v v' := by
  obtain ⟨i, hi, hz, hsize, hby⟩ := info_parts Tryz.info5
  have hown0 := hown
  obtain ⟨hl, A, c, g, off, rfl, hn, hc, hA0, hA, hb, hx, hf⟩ := hown
  have hwr : IntKind.i64.wrap (m : Int) = (m : Int) := by rw [IntWalk.i64_in _ (by omega)]
  have hnn : ¬ ((m : Int) < 0) := by omega
  have hsm : ¬ ((281474976710656 : Int) < (m : Int)) := by omega
  have hzl : (Builtin.zeroCells (Value.int IntKind.u8 0).cells m).toList = List.replicate m (Value.int .u8 0) := zeroCells_one _ _
  have hrep : (List.replicate m (0 : UInt8)).map u8v = List.replicate m (Value.int .u8 0) := by simp [u8v]
  by_cases hroom : l.length + m ≤ c
  · rcases Nat.eq_zero_or_pos m with h0 | h0
    · subst h0
      have hw0 : IntKind.i64.wrap 0 = 0 := by decide
      refine ⟨_, w, ?_, by simpa using hown0, ext0_refl w _⟩
      cases A <;> simp [Builtin.append_, run_underlying Tryz.underlying40, run_underlying Tryz.underlying3, sizeOf, typeInfo, hi, hby, hw0, hn, storeCells, asInt, asIntOf]
    · obtain rfl := hA (by omega)
      have hst := run_storeCells_cells (P := Tryz.prog) g (off + l.length) (List.replicate m (Value.int .u8 0)) 0 w (fun j hj => by rw [Nat.add_zero, Nat.add_assoc]; exact (hf _ (by simp at hj; omega)).1) (fun j hj => by rw [Nat.add_zero, Nat.add_assoc]; exact (hf _ (by simp at hj; omega)).2)
        (fun u hu => by rw [List.eq_of_mem_replicate hu]; rfl)
      rw [Nat.add_zero] at hst
      have hin := World.cell?_setCells_in g (List.replicate m (Value.int .u8 0)) (off + l.length) w (fun j hj => by rw [Nat.add_assoc]; exact (hf _ (by simp at hj; omega)).1)
      have hout : ∀ j, (j < l.length ∨ l.length + m ≤ j) → (w.setCells g (off + l.length) (List.replicate m (Value.int .u8 0))).cell? ⟨g, off + j, none⟩ = w.cell? ⟨g, off + j, none⟩ := fun j hj =>
        World.cell?_setCells_out g _ _ w _ (fun _ _ => by simp; omega)
      refine ⟨_, w.setCells g (off + l.length) (List.replicate m (Value.int .u8 0)), ?_, ⟨by simp, _, c, g, off, rfl, by simpa using hroom, hc, hA0, hA, hb, fun j hj => ?_, fun j hj => ?_⟩, ⟨some g, gr_setCells g _ _ _, fun k hk => (by cases hk; exact blk_some_of (by omega)), fun k hk => .inl ?_⟩⟩
      · have hm0 : ¬ m = 0 := by omega
        simp [Builtin.append_, run_underlying Tryz.underlying40, run_underlying Tryz.underlying3, sizeOf, typeInfo, zeroValue, hi, hz, hsize, hby, hwr, hnn, hsm, hroom, hm0, hzl, asInt, asIntOf, Addr.add_lit, hst]
      · simp only [List.length_append, List.length_replicate, Nat.mul_one] at hj
        rw [List.map_append, hrep]
        by_cases hjn : j < l.length
        · rw [hout j (.inl hjn), hx j (by omega), List.getElem?_append_left (by simpa using hjn)]
        · have := hin (j - l.length) (by simp; omega)
          rw [show off + l.length + (j - l.length) = off + j from by omega] at this
          rw [this, List.getElem?_append_right (by simp; omega), List.length_map, List.getElem?_eq_getElem (by simp; omega)]
      · refine ⟨?_, by rw [World.frozen?_setCells]; exact (hf j hj).2⟩
        by_cases hjn : j < l.length ∨ l.length + m ≤ j
        · rw [hout j hjn]; exact (hf j hj).1
        · have := hin (j - l.length) (by simp; omega)
          rw [show off + l.length + (j - l.length) = off + j from by omega] at this
          rw [this]; rfl
      · rw [blk_some_of (by omega)] at hk ⊢
        exact hk
  · have hm0 : ¬ m = 0 := by omega
    have hge := grownCap_ge w (l.length + m) c 5
    have hcm : grownCap w (l.length + m) c 5 ≤ maxLen := grownCap_le_maxLen w (l.length + m) c 5 (by unfold maxLen; omega)
    have h63 : ¬ ((9223372036854775807 : Int) < (l.length : Int) + (m : Int)) := by omega
    have h48 : ¬ (281474976710656 < Builtin.nextslicecap (l.length + m) c) := by have := growslice_fits (need := l.length + m) (old := c) (bytes := 1) (by omega) (by omega); omega
    have hfo : (Builtin.firstCells 1 l.length (.slice A l.length c)).run Tryz.prog w.drew = .ok (l.map u8v).toArray w.drew := by
      cases A with
      | none =>
        have := hA0 rfl
        obtain rfl : l = [] := List.eq_nil_of_length_eq_zero (by omega)
        rfl
      | some a =>
        refine run_firstCells_some (P := Tryz.prog) w.drew 1 l.length a l.length c (l.map u8v) (by simp) fun j u hj => ?_
        have hjl : j < (l.map u8v).length := (List.getElem?_eq_some_iff.1 hj).1
        have h0 : j < l.length := by simpa using hjl
        have := hA (by omega)
        cases this
        rw [Addr.add_lit]
        show w.cell? _ = _
        rw [hx j (by omega), hj]
    refine ⟨.slice (some ⟨w.heap.size, 0, none⟩) (l.length + m) (grownCap w (l.length + m) c 5), w.drew.alloc (.cells ((l.map u8v).toArray ++ (List.replicate m (Value.int .u8 0)).toArray ++ Builtin.zeroCells (Value.int IntKind.u8 0).cells (grownCap w (l.length + m) c 5 - (l.length + m))) 5), ?_, ?_, none, gr_trans (gr_drew w none) (gr_alloc _ _ none) (.inl rfl), fun _ e => (by cases e), fun k hk => .inr ?_⟩
    · have hza : Builtin.zeroCells (Value.int IntKind.u8 0).cells m = (List.replicate m (Value.int .u8 0)).toArray := by rw [← hzl]
      simp [Builtin.append_, run_underlying Tryz.underlying40, run_underlying Tryz.underlying3, sizeOf, typeInfo, zeroValue, hi, hz, hsize, hby, hwr, hnn, hsm, hroom, hm0, hza, asInt, asIntOf, h63, h48, Question.forced, hfo, newRow, grownCap]
    · refine own_grow (l := l ++ List.replicate m 0) 5 (by simpa using hge) hcm hB _ ?_ ?_ (by simp)
      · simp [size_zeroCells, Value.cells]; omega
      · rw [List.map_append, hrep, Array.toList_append, Array.toList_append]
        exact List.take_left' (by simp)
    · rcases Nat.eq_zero_or_pos (grownCap w (l.length + m) c 5) with h0 | h0
      · rw [blk_none_of h0] at hk; cases hk
      · rw [blk_some_of h0] at hk; cases hk; exact Nat.le_refl _

/-- bytes laid over others from a place on. -/
def over (l : List UInt8) (p : Nat) (m : List UInt8) : List UInt8 := l.take p ++ m ++ l.drop (p + m.length)
theorem over_len {l m : List UInt8} {p : Nat} (h : p + m.length ≤ l.length) : (over l p m).length = l.length := by simp [over]; omega
theorem over_nil (l : List UInt8) (p : Nat) : over l p [] = l := by simp [over]
theorem over_at {l m : List UInt8} {p : Nat} (h : p + m.length ≤ l.length) (j : Nat) : (over l p m)[j]? = if j < p then l[j]? else if j < p + m.length then m[j - p]? else l[j]? := by
  unfold over
  by_cases h1 : j < p
  · rw [if_pos h1, List.append_assoc, List.getElem?_append_left (by simp; omega), List.getElem?_take, if_pos h1]
  · rw [if_neg h1, List.append_assoc, List.getElem?_append_right (by simp; omega)]
    have hl : (l.take p).length = p := by simp; omega
    rw [hl]
    by_cases h2 : j < p + m.length
    · rw [if_pos h2, List.getElem?_append_left (by omega)]
    · rw [if_neg h2, List.getElem?_append_right (by omega), List.getElem?_drop]
      congr 1; omega
/-- copy(v[p:], x). -/
theorem run_copyB (w : World) (ty : TypeId) (B p : Nat) (A : Option Addr) (c : Nat) (l m : List UInt8) (hown : OwnB w B (.slice A l.length c) l) (hpm : p + m.length ≤ l.length) (x : Value) (hr : RdB w x m) :
    ∃ w', (Builtin.copy_ #[40, 40] ty #[.slice (cutA A c p 1) (l.length - p) (c - p), x]).run Tryz.prog w = .ok (.int .i64 m.length) w' ∧ OwnB w' B (.slice A l.length c) (over l p m) ∧ Ext0 w w' (.slice A l.length c) (.slice A l.length c) := by
  obtain ⟨i, hi, hz, hsize, hby⟩ := info_parts Tryz.info5
  have hown0 := hown
  obtain ⟨hl, A', c', g, off, e, hn, hc, hA0, hA, hb, hx, hf⟩ := hown
  cases e
  obtain ⟨hl2, A2, c2, g2, off2, rfl, hn2, hc2, hA02, hA2, hx2⟩ := hr
  have hmin : Nat.min m.length (l.length - p) = m.length := Nat.min_eq_left (by omega)
  have hgi : goInt m.length = .int .i64 m.length := rfl
  rcases Nat.eq_zero_or_pos m.length with h0 | h0
  · obtain rfl : m = [] := List.eq_nil_of_length_eq_zero h0
    refine ⟨w, ?_, by rw [over_nil]; exact hown0, ext0_refl w _⟩
    have hfc : (Builtin.firstCells 1 0 (.slice A2 0 c2)).run Tryz.prog w = .ok #[] w := by cases A2 <;> simp [Builtin.firstCells, loadCells, loadCellsFrom]
    have hz0 : goInt 0 = .int .i64 0 := rfl
    cases hcu : cutA A c p 1 <;> simp [Builtin.copy_, run_underlying Tryz.underlying40, sizeOf, typeInfo, hi, hsize, Builtin.lenOf, hfc, storeCells, hz0]
  · obtain rfl := hA2 (by omega)
    obtain rfl := hA (by omega)
    have hnews : ∀ j u, (m.map u8v)[j]? = some u → w.cell? ((⟨g2, off2, none⟩ : Addr).add j) = some u := by
      intro j u hu
      have hj : j < (m.map u8v).length := (List.getElem?_eq_some_iff.1 hu).1
      rw [Addr.add_lit, hx2 j (by simpa using hj), hu]
    have hfc := run_firstCells_some (P := Tryz.prog) w 1 m.length ⟨g2, off2, none⟩ m.length c2 (m.map u8v) (by simp) hnews
    have hst := run_storeCells_cells (P := Tryz.prog) g (off + p) (m.map u8v) 0 w (fun j hj => by rw [Nat.add_zero, Nat.add_assoc]; exact (hf _ (by simp at hj; omega)).1) (fun j hj => by rw [Nat.add_zero, Nat.add_assoc]; exact (hf _ (by simp at hj; omega)).2) (u8_one m)
    rw [Nat.add_zero] at hst
    have hcut : cutA (some ⟨g, off, none⟩) c p 1 = some ⟨g, off + p, none⟩ := by
      unfold cutA
      rw [if_neg (by omega)]
      simp [Addr.add_lit]
    have hin := World.cell?_setCells_in g (m.map u8v) (off + p) w (fun j hj => by rw [Nat.add_assoc]; exact (hf _ (by simp at hj; omega)).1)
    have hout : ∀ j, (j < p ∨ p + m.length ≤ j) → (w.setCells g (off + p) (m.map u8v)).cell? ⟨g, off + j, none⟩ = w.cell? ⟨g, off + j, none⟩ := fun j hj =>
      World.cell?_setCells_out g _ _ w _ (fun _ _ => by simp; omega)
    refine ⟨w.setCells g (off + p) (m.map u8v), ?_, ⟨by simp, _, c, g, off, by rw [over_len hpm], by rw [over_len hpm]; exact hn, hc, hA0, hA, hb, fun j hj => ?_, fun j hj => ?_⟩, some g, gr_setCells g _ _ _, fun k hk => (by cases hk; exact blk_some_of (by omega)), fun k hk => .inl hk⟩
    · rw [hcut]
      simp [Builtin.copy_, run_underlying Tryz.underlying40, sizeOf, typeInfo, hi, hsize, Builtin.lenOf, hmin, hfc, hst, hgi]
    · rw [Nat.mul_one, over_len hpm] at hj
      rw [List.getElem?_map, over_at hpm]
      by_cases h1 : j < p ∨ p + m.length ≤ j
      · rw [hout j h1, hx j (by omega), List.getElem?_map]
        rcases h1 with h1 | h1
        · rw [if_pos h1]
        · rw [if_neg (by omega), if_neg (by omega)]
      · have := hin (j - p) (by simp; omega)
        rw [show off + p + (j - p) = off + j from by omega] at this
        rw [this, if_neg (by omega), if_pos (by omega), ← List.getElem?_map, List.getElem?_eq_getElem (by simp; omega)]
    · refine ⟨?_, by rw [World.frozen?_setCells]; exact (hf j hj).2⟩
      by_cases h1 : j < p ∨ p + m.length ≤ j
      · rw [hout j h1]; exact (hf j hj).1
      · have := hin (j - p) (by simp; omega)
        rw [show off + p + (j - p) = off + j from by omega] at this
        rw [this]; rfl

/-! what stays where a block stays -/
section
variable {w w' : World} {B s n : Nat} {v : Value} {xs : List Value}
theorem cell_of_same {k o : Nat} (h : w'.heap[k]? = w.heap[k]?) : w'.cell? ⟨k, o, none⟩ = w.cell? ⟨k, o, none⟩ := World.cell?_of_block h
theorem frozen_of_same {k o : Nat} (h : w'.heap[k]? = w.heap[k]?) : w'.frozen? ⟨k, o, none⟩ = w.frozen? ⟨k, o, none⟩ := World.frozen?_of_block h
theorem Own.same (h : Own w B s v n xs) (hb : ∀ k, blk v = some k → w'.heap[k]? = w.heap[k]?) : Own w' B s v n xs := by
  obtain ⟨hl, A, c, g, off, rfl, hn, hc, hA0, hA, hB, hx, hf⟩ := h
  rcases Nat.eq_zero_or_pos c with h0 | h0
  · subst h0
    obtain rfl : n = 0 := by omega
    exact ⟨hl, A, 0, g, off, rfl, hn, hc, hA0, hA, hB, fun j hj => by omega, fun j hj => by omega⟩
  · obtain rfl := hA h0
    have := hb g (blk_some_of h0)
    exact ⟨hl, _, c, g, off, rfl, hn, hc, hA0, hA, hB, fun j hj => by rw [cell_of_same this]; exact hx j hj, fun j hj => by rw [cell_of_same this, frozen_of_same this]; exact hf j hj⟩
theorem Rd.same (h : Rd w s v n xs) (hb : ∀ k, blk v = some k → w'.heap[k]? = w.heap[k]?) : Rd w' s v n xs := by
  obtain ⟨hl, A, c, g, off, rfl, hn, hc, hA0, hA, hx⟩ := h
  rcases Nat.eq_zero_or_pos c with h0 | h0
  · subst h0
    obtain rfl : n = 0 := by omega
    exact ⟨hl, A, 0, g, off, rfl, hn, hc, hA0, hA, fun j hj => by omega⟩
  · obtain rfl := hA h0
    have := hb g (blk_some_of h0)
    exact ⟨hl, _, c, g, off, rfl, hn, hc, hA0, hA, fun j hj => by rw [cell_of_same this]; exact hx j hj⟩
theorem Blk.same {g : Nat} {t : TypeId} {cs : Array Value} (h : Blk w g t cs) (hb : w'.heap[g]? = w.heap[g]?) : Blk w' g t cs := hb.trans h
end
end Go.Proofs.YtipankjajdpiiaaGreat

/- The references' numbers and bytes: packages milepostref00, milepostref01. -/
namespace Go.Proofs.YtipankjajdpiiaaGreat
open Go.RowKit
set_option maxRecDepth 100000
set_option maxHeartbeats 400000

theorem rsized_any (n : Int) (w : World) :
    Calls Tryz.prog 131 #[.int .i64 n] w fun e w' => e = .returned (.bool (szd n)) ∧ w = w' := by
  by_cases h1 : n = 1
  · subst h1
    have hs : Hid (szd 1 = true) := by unfold szd memI; exact rfl
    go_enter Tryz.func131, Tryz.ntmps131
    go_wp2
    go_ret
    exact ⟨by rw [hs.out]; rfl, rfl⟩
  by_cases h2 : n = 2
  · subst h2
    have hs : Hid (szd 2 = true) := by unfold szd memI; exact rfl
    go_enter Tryz.func131, Tryz.ntmps131
    go_wp2
    go_ret
    exact ⟨by rw [hs.out]; rfl, rfl⟩
  by_cases h4 : n = 4
  · subst h4
    have hs : Hid (szd 4 = true) := by unfold szd memI; exact rfl
    go_enter Tryz.func131, Tryz.ntmps131
    go_wp2
    go_ret
    exact ⟨by rw [hs.out]; rfl, rfl⟩
  have b1 : (n == 1) = false := by simpa using h1
  have b2 : (n == 2) = false := by simpa using h2
  have b4 : (n == 4) = false := by simpa using h4
  have Hs : Hid (szd n = (n == 8)) := by
    have : szd n = (n == 8) := by simp [szd, memI, h1, h2, h4]; rfl
    exact this
  clear h1 h2 h4
  go_enter Tryz.func131, Tryz.ntmps131
  go_wp2
  go_ret
  exact ⟨by rw [Hs.out]; rfl, rfl⟩

theorem copyBytes_any (v : Value) (l : List UInt8) (w : World) (h : RdB w v l) (hn : l.length ≤ 1000000000) :
    Calls Tryz.prog 28 #[v] w fun e w' => ∃ v', e = .returned v' ∧ OwnB w' w.heap.size v' l ∧ w.grownBy w' none := by
  obtain ⟨A, c, rfl⟩ := h.form
  rcases l with _ | ⟨b, l⟩
  · clear h
    go_enter Tryz.func28, Tryz.ntmps28
    go_wp2
    go_ret
    exact ⟨_, rfl, OwnB.nil _ _, gr_refl _ _⟩
  · have hs := run_str h
    generalize hl : b :: l = L at *
    have h0 : ((L.length : Int) == 0) = false := by subst hl; simp; omega
    clear h hl
    go_enter Tryz.func28, Tryz.ntmps28
    go_wp2_with (refine wp_bytes rfl (.tmp 7) rfl L rfl (by unfold maxLen; omega) ?_; rintro v' w' h1 g1 -)
    go_ret
    exact ⟨_, rfl, h1, g1⟩

theorem eqBytes_any (v v' : Value) (l l' : List UInt8) (w : World) (h : RdB w v l) (h' : RdB w v' l') :
    Calls Tryz.prog 62 #[v, v'] w fun e w' => e = .returned (.bool (l == l')) ∧ w = w' := by
  obtain ⟨A, c, rfl⟩ := h.form
  obtain ⟨A', c', rfl⟩ := h'.form
  have hs := run_str h
  have hs' := run_str h'
  clear h h'
  by_cases hl : l.length = l'.length
  · have hb : ((l.length : Int) == (l'.length : Int)) = true := by rw [beq_iff_eq]; omega
    have Hl := Lib.hid hl
    clear hl
    go_enter Tryz.func62, Tryz.ntmps62
    go_wp2
    go_ret
    exact ⟨rfl, rfl⟩
  · have hb : ((l.length : Int) == (l'.length : Int)) = false := by rw [beq_eq_false_iff_ne]; omega
    have Hl : Hid ((l == l') = false) := by
      have : (l == l') = false := by rw [beq_eq_false_iff_ne]; exact fun e => hl (by rw [e])
      exact this
    clear hl
    go_enter Tryz.func62, Tryz.ntmps62
    go_wp2
    go_ret
    exact ⟨by rw [Hl.out]; rfl, rfl⟩

theorem byteAt_tmod (x k : Nat) : ((x : Int) / 2 ^ (8 * k)).tmod 256 % 256 = ((byteAt x k).toNat : Int) := by
  have e : (x : Int) / 2 ^ (8 * k) = ((x / 2 ^ (8 * k) : Nat) : Int) := by simp
  rw [← byteAt_val, e, Int.tmod_eq_emod_of_nonneg (Int.natCast_nonneg _), ← e, Int.emod_emod]
theorem div_step (x k : Nat) (hx : x / 2 ^ (8 * k) ≤ 18446744073709551615) : IntKind.u64.wrap (((x : Int) / 2 ^ (8 * k)).tdiv 256) = ((x / 2 ^ (8 * (k + 1)) : Nat) : Int) := by
  have e : (x : Int) / 2 ^ (8 * k) = ((x / 2 ^ (8 * k) : Nat) : Int) := by simp
  rw [e]
  generalize hy : x / 2 ^ (8 * k) = y at *
  rw [IntWalk.u64_quo _ _ (by omega), show 8 * (k + 1) = 8 * k + 8 from by omega, Nat.pow_add, ← Nat.div_div_eq_div_mul, hy]
  omega
/-- the reference's bytes of a number. -/
theorem rput_i (S X : Int) (size x : Nat) (hS : S = (size : Int)) (hX : X = (x : Int)) (v : Value) (l : List UInt8) (w : World) (hx : x < 2 ^ 64) (hs : size = 1 ∨ size = 2 ∨ size = 4 ∨ size = 8) (hn : l.length ≤ 1000000000) (h : RdB w v l) :
    Calls Tryz.prog 114 #[v, .int .u64 X, .int .i64 S] w fun e w' => ∃ v', e = .returned v' ∧ OwnB w' w.heap.size v' (l ++ le x size) ∧ w.grownBy w' none := by
  subst hS hX
  have Hs : Hid (szd size = true) := (szd_iff _).2 (by omega)
  have hs8 : size ≤ 8 := by omega
  have Hx := Lib.hid hx
  clear hs hx
  go_enter Tryz.func114, Tryz.ntmps114
  go_wp2_with (go_at_call 28; refine (copyBytes_any v l _ h hn).mono ?_; rintro e w1 ⟨v1, rfl, h1, g1⟩)
  go_loopw [1, 7, 8] (fun X u i wr => ∃ k : Nat, k ≤ size ∧ i = .int .i64 k ∧ X = .int .u64 ((x / 2 ^ (8 * k) : Nat) : Int) ∧ OwnB wr w.heap.size u (l ++ le x k) ∧ w.grownBy wr none)
    (fun _ _ i _ => size - (intOf i).toNat)
  case atStart => exact ⟨0, by omega, rfl, by simp, by simpa [le] using h1, g1⟩
  case round =>
    obtain ⟨k, hk, rfl, rfl, hw, hb⟩ := hrel
    have hsz := hb.size
    have hp : x / 2 ^ (8 * k) ≤ 18446744073709551615 := by have := Hx.out; have := Nat.div_le_self x (2 ^ (8 * k)); omega
    by_cases hlt : k < size
    · have hlt' : decide ((k : Int) < size) = true := by simp; omega
      have hlen : (l ++ le x k).length ≤ 70000000000000 := by simp [length_le]; omega
      go_wp2_with (first | (go_at_call 131; refine (rsized_any _ _).mono ?_; rintro e w2 ⟨rfl, rfl⟩; rw [Hs.out]) | (at_builtin; refine wp_app1B (byteAt x k) _ ?_ rfl (.tmp 20) (.tmp 24) rfl rfl hw rfl hlen hsz ?_))
      · exact byteAt_tmod x k
      · intro v2 w2 h2 g2 a2
        go_wp2
        go_roundw
        case rel => exact ⟨k + 1, by omega, by go_num, by rw [div_step x k hp], by simpa [le_succ] using h2, gr_trans hb g2 (.inr fun j hj => Own.lt hw j hj)⟩
        case measure => simp [intOf]; omega
    · have : k = size := by omega
      subst this
      have hlt' : decide ((k : Int) < k) = false := by simp
      go_wp2
      go_ret
      exact ⟨_, rfl, hw, hb⟩

theorem get_step (l : List UInt8) (at_ size k : Nat) (hs : size ≤ 8) (hk : k + 1 ≤ size) (hl : at_ + k < l.length) :
    IntKind.u64.wrap (IntKind.u64.wrap (256 * (rdN (((l.drop at_).take size).drop (k + 1)) : Int)) + IntKind.u64.wrap (l[at_ + k].toNat : Int)) = (rdN (((l.drop at_).take size).drop k) : Int) := by
  have hlen : k < ((l.drop at_).take size).length := by simp; omega
  have e : ((l.drop at_).take size).drop k = l[at_ + k] :: ((l.drop at_).take size).drop (k + 1) := by
    rw [List.drop_eq_getElem_cons hlen, List.getElem_take, List.getElem_drop]
  have h1 := rdN_lt (((l.drop at_).take size).drop (k + 1))
  have h2 : 2 ^ (8 * (((l.drop at_).take size).drop (k + 1)).length) ≤ 2 ^ 56 := Nat.pow_le_pow_right (by omega) (by simp; omega)
  have h3 := l[at_ + k].toNat_lt
  rw [e, rdN]
  generalize rdN (((l.drop at_).take size).drop (k + 1)) = X at *
  rw [IntWalk.u64_in (256 * (X : Int)) (by omega), IntWalk.u64_in (l[at_ + k].toNat : Int) (by omega), IntWalk.u64_in _ (by omega)]
  push_cast
  omega

theorem rget_any (O S : Int) (at_ size : Nat) (hO : O = (at_ : Int)) (hS : S = (size : Int)) (v : Value) (l : List UInt8) (w : World) (hs : size = 1 ∨ size = 2 ∨ size = 4 ∨ size = 8) (hn : at_ + size ≤ l.length) (hl : l.length ≤ 1000000000) (h : RdB w v l) :
    Calls Tryz.prog 124 #[v, .int .i64 O, .int .i64 S] w fun e w' => e = .returned (.tuple #[.int .u64 (rdN ((l.drop at_).take size)), .int .i64 0]) ∧ w = w' := by
  subst hO hS
  obtain ⟨hle, A, c, g, off, rfl, hnc, hc, hA0, hA, hx⟩ := h
  have := hA (by omega)
  subst this
  have Hs : Hid (szd size = true) := (szd_iff _).2 (by omega)
  have hs8 : size ≤ 8 := by omega
  have hs1 : 1 ≤ size := by omega
  clear hs hle hA hA0
  go_enter Tryz.func124, Tryz.ntmps124
  go_wp2_with (go_at_call 131; refine (rsized_any _ _).mono ?_; rintro e w2 ⟨rfl, rfl⟩; rw [Hs.out])
  go_loop [8, 9] (fun X i => ∃ k : Nat, k ≤ size ∧ i = .int .i64 ((k : Int) - 1) ∧ X = .int .u64 (rdN (((l.drop at_).take size).drop k))) (fun _ i => (intOf i + 1).toNat)
  case atStart => exact ⟨size, by omega, rfl, by simp [rdN]⟩
  case round =>
    obtain ⟨k, hk, rfl, rfl⟩ := hrel
    rcases k with _ | k
    · go_wp2
      go_ret2
      exact ⟨by simp, rfl⟩
    · have hkl : at_ + k < l.length := by omega
      have hcell : w.cell? ⟨g, off + (at_ + k), none⟩ = some (.int .u8 l[at_ + k].toNat) := by rw [hx (at_ + k) (by omega)]; simp [u8v, hkl]
      clear hx
      go_wp2
      go_round
      case rel => exact ⟨k, by omega, by go_num, by rw [get_step l at_ size k hs8 hk hkl]⟩
      case measure => simp [intOf]

end Go.Proofs.YtipankjajdpiiaaGreat
