/-
  input.check and its reference: a whole input.
-/
import Derived.Test.YthckjpcknmmagaaDoorRow3
namespace Go.Proofs.YthckjpcknmmagaaDoor
open Go.RowKit
set_option maxRecDepth 100000
set_option maxHeartbeats 400000

theorem Tryd.infoE : (Tryd.prog.info? 29).map (fun i => (i.zero, i.size, i.bytes)) = some (some (.agg #[.int .u32 0, .int .u32 0, .int .u64 0, .int .u32 0]), 4, 24) := by kernel_rfl

def edL (l : List Ed) : List Value := l.flatMap fun e => e.cells.toList
theorem length_edL : ∀ (l : List Ed), (edL l).length = l.length * 4
  | [] => rfl
  | e :: l => by
    have := length_edL l
    simp only [edL, List.flatMap_cons, List.length_append, List.length_cons] at *
    rw [this, Nat.add_mul]
    simp [Ed.cells]; omega
theorem edL_app (l m : List Ed) : edL (l ++ m) = edL l ++ edL m := by simp [edL]
theorem edL_at : ∀ (l : List Ed) (i j : Nat) (hi : i < l.length), j < 4 → (edL l)[i * 4 + j]? = (l[i].cells)[j]?
  | e :: l, 0, j, _, hj => by
    simp only [edL, List.flatMap_cons]
    rw [List.getElem?_append_left (by simp [Ed.cells]; omega)]
    simp
  | e :: l, i + 1, j, hi, hj => by
    have ih := edL_at l i j (by simpa using hi) hj
    simp only [edL, List.flatMap_cons] at *
    rw [List.getElem?_append_right (by simp [Ed.cells]; omega)]
    rw [show (i + 1) * 4 + j - e.cells.toList.length = i * 4 + j from by simp [Ed.cells]; omega, ih]
    simp
theorem ed_one (l : List Ed) : ∀ u ∈ edL l, u.oneCell' = true := by
  intro u hu
  obtain ⟨e, _, he⟩ := List.mem_flatMap.1 hu
  simp [Ed.cells, u32v, u64v] at he
  rcases he with rfl | rfl | rfl | rfl <;> rfl
def OwnE (w : World) (B : Nat) (v : Value) (l : List Ed) : Prop := Own w B 4 v l.length (edL l)
def RdE (w : World) (v : Value) (l : List Ed) : Prop := Rd w 4 v l.length (edL l)
theorem OwnE.rd {w : World} {B : Nat} {v : Value} {l : List Ed} (h : OwnE w B v l) : RdE w v l := Own.rd h
theorem OwnE.nil (w : World) (B : Nat) : OwnE w B (.slice none 0 0) [] := Own.nil _ _ _
theorem OwnE.ext {w w' : World} {B : Nat} {v : Value} {l : List Ed} (h : OwnE w B v l) (hg : w.grownBy w' none) : OwnE w' B v l := Own.ext h hg
theorem OwnE.mono {w : World} {B B' : Nat} {v : Value} {l : List Ed} (h : OwnE w B v l) (hB : B' ≤ B) : OwnE w B' v l := Own.mono h hB
theorem RdE.ext {w w' : World} {v : Value} {l : List Ed} (h : RdE w v l) (hg : w.grownBy w' none) : RdE w' v l := Rd.ext h hg
theorem RdE.form {w : World} {v : Value} {l : List Ed} (h : RdE w v l) : ∃ A c, v = .slice A l.length c := by
  obtain ⟨_, A, c, _, _, e, _⟩ := h; exact ⟨A, c, e⟩
theorem ownE_app {w : World} {B : Nat} {v : Value} {l m : List Ed} (h : Own w B 4 v (l.length + m.length) (edL l ++ edL m)) : OwnE w B v (l ++ m) := by
  unfold OwnE; rw [edL_app]; simpa using h
/-- append(v, e) of an edge. -/
theorem wp_app1E {ops : Array Oper} {rest : List Oper} {o : Oper} {a : Act} {Q : Exit → Act → World → Prop} {w : World} (e : Ed) (C : Array Value) (hC : C = e.cells) (hgd : o.guard = none) (s0 x0 : Operand)
    (ho : o.op = .call { callee := .builtin .append, args := #[s0, x0], argTypes := #[22, 22] }) {B : Nat} {v : Value} {l : List Ed} (hs : a.eval s0 = v) (hown : OwnE w B v l)
    (g : Nat) (hx : a.eval x0 = .slice (some ⟨g, 0, none⟩) 1 1) (hg : g = w.heap.size) (hn : l.length ≤ 1000000000) (hB : B ≤ w.heap.size)
    (h : ∀ v' w', OwnE w' B v' (l ++ [e]) → w.grownBy w' v.ownBlock → (v'.ownBlock = v.ownBlock ∨ ∃ k, v'.ownBlock = some k ∧ w.heap.size ≤ k) → wpList Tryd.prog ops Q rest (a.put o.dst v') w') :
    wpList Tryd.prog ops Q (o :: rest) a (w.alloc (.cells C 29)) := by
  subst hC hg
  have he : edL [e] = e.cells.toList := by simp [edL]
  exact wp_app1 w e.cells hgd s0 x0 _ ho B 29 _ 4 24 Tryd.underlying22 Tryd.infoE rfl (by omega) v _ _ hs hown hx rfl (by rw [← he]; exact ed_one [e]) (by unfold maxLen; omega) (by omega) hB
    fun v' w' h1 h2 h3 => h v' w' (ownE_app (m := [e]) (by rw [he]; exact h1)) h2 h3
/-- append(v, x...) of edges. -/
theorem wp_appE {ops : Array Oper} {rest : List Oper} {o : Oper} {a : Act} {Q : Exit → Act → World → Prop} {w : World} (hgd : o.guard = none) (s0 x0 : Operand)
    (ho : o.op = .call { callee := .builtin .append, args := #[s0, x0], argTypes := #[22, 22] }) {B : Nat} {v x : Value} {l m : List Ed} (hs : a.eval s0 = v) (hown : OwnE w B v l)
    (hx : a.eval x0 = x) (hr : RdE w x m) (hn : l.length + m.length ≤ 1000000000) (hB : B ≤ w.heap.size)
    (h : ∀ v' w', OwnE w' B v' (l ++ m) → w.grownBy w' v.ownBlock → (v'.ownBlock = v.ownBlock ∨ ∃ k, v'.ownBlock = some k ∧ w.heap.size ≤ k) → wpList Tryd.prog ops Q rest (a.put o.dst v') w') :
    wpList Tryd.prog ops Q (o :: rest) a w :=
  wp_app w hgd s0 x0 _ ho B 29 _ 4 24 Tryd.underlying22 Tryd.infoE rfl (by omega) v _ _ hs hown x _ _ hx hr (ed_one m) (by unfold maxLen; omega) (by omega) hB
    fun v' w' h1 h2 h3 => h v' w' (ownE_app h1) h2 h3

/-- the rows that are left, k of them from a place on, behind those that were read. -/
def rowsM (b : List UInt8) (n : UInt32) : Nat → Nat → List Ed → List Ed × Flt
  | 0, p, acc => if p < b.length then ([], some (8, p)) else (acc, none)
  | k + 1, p, acc => match rowM ((b.drop p).take 16) n p with
    | (_, some f) => ([], some f)
    | (e, none) => rowsM b n k (p + 16) (acc ++ [e])
def checkM (b : List UInt8) : Nat × List Ed × Flt :=
  match headM b with
  | (_, _, some f) => (0, [], some f)
  | (n, m, none) => match rowsM b (UInt32.ofNat n) m 12 [] with
    | (_, some f) => (0, [], some f)
    | (l, none) => (n, l, none)
/-- what check answers. -/
def ResC (B : Nat) (r : Nat × List Ed × Flt) (e : Ending) (w' : World) : Prop := ∃ v, e = .returned (.tuple #[.int .u32 r.1, v, errV r.2.2]) ∧ OwnE w' B v r.2.1
theorem check_head {b : List UInt8} {n m : Nat} {f : Nat × Nat} (h : headM b = (n, m, some f)) : checkM b = (0, [], some f) := by unfold checkM; rw [h]
theorem check_bad {b : List UInt8} {n m : Nat} {l : List Ed} {f : Nat × Nat} (h : headM b = (n, m, none)) (hr : rowsM b (UInt32.ofNat n) m 12 [] = (l, some f)) : checkM b = (0, [], some f) := by unfold checkM; rw [h]; simp only [hr]
theorem check_good {b : List UInt8} {n m : Nat} {l : List Ed} (h : headM b = (n, m, none)) (hr : rowsM b (UInt32.ofNat n) m 12 [] = (l, none)) : checkM b = (n, l, none) := by unfold checkM; rw [h]; simp only [hr]
theorem rows_bad {b : List UInt8} {n : UInt32} {k p : Nat} {acc : List Ed} {e : Ed} {f : Nat × Nat} (h : rowM ((b.drop p).take 16) n p = (e, some f)) : rowsM b n (k + 1) p acc = ([], some f) := by
  rw [rowsM, h]
theorem rows_good {b : List UInt8} {n : UInt32} {k p : Nat} {acc : List Ed} {e : Ed} (h : rowM ((b.drop p).take 16) n p = (e, none)) : rowsM b n (k + 1) p acc = rowsM b n k (p + 16) (acc ++ [e]) := by
  rw [rowsM, h]
theorem head_bound {b : List UInt8} {n m : Nat} (h : headM b = (n, m, none)) : n ≤ 2147483647 ∧ m ≤ 16777216 ∧ 12 ≤ b.length := by
  unfold headM at h
  split at h
  · simp at h
  · repeat' split at h
    all_goals simp at h
    omega

theorem piece_list (b : List UInt8) (p lo hi : Nat) (hlo : lo = min p b.length) (hhi : hi = min (p + 16) b.length) : (b.take hi).drop lo = (b.drop p).take 16 := by
  rw [List.drop_take]
  by_cases h : p ≤ b.length
  · rw [hlo, Nat.min_eq_left h, hhi]
    by_cases h2 : p + 16 ≤ b.length
    · rw [Nat.min_eq_left h2, show p + 16 - p = 16 from by omega]
    · rw [Nat.min_eq_right (by omega), List.take_of_length_le (by simp), List.take_of_length_le (by simp; omega)]
  · rw [hlo, Nat.min_eq_right (by omega), List.drop_of_length_le (Nat.le_refl _), List.drop_of_length_le (show b.length ≤ p by omega)]
    simp
theorem piece_any {w : World} {A : Option Addr} {c : Nat} {b : List UInt8} (h : RdB w (.slice A b.length c) b) (p lo hi : Nat) (hlo : lo = min p b.length) (hhi : hi = min (p + 16) b.length) {n' c' : Nat} (hn : n' = hi - lo) (hc : c' = c - lo) :
    RdB w (.slice (cutA A c lo 1) n' c') ((b.drop p).take 16) := by
  subst hn hc
  rw [← piece_list b p lo hi hlo hhi]
  exact h.cut (by omega) (by omega)

set_option maxHeartbeats 2000000 in
theorem check_any (v : Value) (b : List UInt8) (w : World) (h : RdB w v b) (hl : b.length ≤ 1000000000) :
    Calls Tryd.prog 25 #[v] w fun e w' => ResC w.heap.size (checkM b) e w' ∧ w.grownBy w' none := by
  obtain ⟨A, c, rfl⟩ := h.form
  have hcap := h.cap
  have R0 := Lib.hid h
  have hhead := head_any _ b w h hl
  clear h
  rcases hh : headM b with ⟨n, m, f⟩
  unfold ResH at hhead
  rw [hh] at hhead
  have Hhead := Lib.hid hhead
  clear hhead
  rcases f with _ | f
  · obtain ⟨hn, hm, hb12⟩ := head_bound hh
    obtain ⟨N, hN⟩ : ∃ N : UInt32, N.toNat = n := ⟨UInt32.ofNat n, u32_of (by omega)⟩
    subst hN
    have Hg : Hid (∀ l, rowsM b N m 12 [] = (l, none) → checkM b = (N.toNat, l, none)) := fun l h => check_good hh (by rw [UInt32.ofNat_toNat]; exact h)
    have Hb : Hid (∀ l f, rowsM b N m 12 [] = (l, some f) → checkM b = (0, [], some f)) := fun l f h => check_bad hh (by rw [UInt32.ofNat_toNat]; exact h)
    clear hh
    go_enter Tryd.func25, Tryd.ntmps25
    go_wp2_with (go_at_call 22; refine Hhead.out.mono ?_; rintro e w1 ⟨rfl, g1⟩; simp only [errV])
    go_loopw [3, 7, 21] (fun u p i wr => ∃ (k : Nat) (acc : List Ed), k ≤ m ∧ i = .int .u64 k ∧ p = .int .i64 ((12 + 16 * k : Nat) : Int) ∧ acc.length = k ∧ OwnE wr w.heap.size u acc ∧ w.grownBy wr none ∧ rowsM b N m 12 [] = rowsM b N (m - k) (12 + 16 * k) acc)
      (fun _ _ i _ => m - (intOf i).toNat)
    case atStart => exact ⟨0, [], by omega, rfl, rfl, rfl, OwnE.nil _ _, g1, rfl⟩
    case round =>
      obtain ⟨k, acc, hk, rfl, rfl, hacc, hown, hg, hrec⟩ := hrel
      have Hrec := Lib.hid hrec
      have Hacc := Lib.hid hacc
      have hsz := hg.size
      clear hrec hacc
      by_cases hlt : k < m
      · have hp : 12 + 16 * k ≤ 300000000 := by omega
        by_cases h1 : 12 + 16 * k + 16 ≤ b.length
        · rcases hrow : rowM ((b.drop (12 + 16 * k)).take 16) N (12 + 16 * k) with ⟨⟨xt, xh, xw, xm⟩, f⟩
          have Hrow := Lib.hid hrow
          clear hrow
          have hpp : ((12 + 16 * k : Nat) : Int) = 12 + 16 * (k : Int) := by omega
          rcases f with _ | f
          · go_wp2_with (first | (go_at_call 24; refine (row_any _ ((b.drop (12 + 16 * k)).take 16) N (12 + 16 * k) _ (piece_any (R0.out.ext hg) (12 + 16 * k) (12 + 16 * k) (12 + 16 * k + 16) (by omega) (by omega) (by omega) (by omega)) (by simp; omega) (by omega)).mono ?_; rintro e w2 ⟨he, g2⟩; rw [Hrow.out] at he; obtain rfl := he; simp only [Ed.v, Ed.cells, errV, u32v, u64v]) | (at_builtin; refine wp_app1E ⟨xt, xh, xw, xm⟩ _ rfl rfl (.tmp 45) (.tmp 47) rfl rfl ((hown.ext g2).ext (gr_alloc _ _ _)) _ rfl ?_ ?_ ?_ ?_))
            · simp
            · rw [Hacc.out]; omega
            · have := g2.size; simp; omega
            · intro v3 w3 h3 g3 a3
              go_wp2
              go_roundw
              case rel => exact ⟨k + 1, acc ++ [⟨xt, xh, xw, xm⟩], by omega, by go_num, by go_num, by simp [Hacc.out], h3, gr_trans (gr_none (gr_none hg g2) (gr_alloc _ _ _)) g3 (.inr fun j hj => Own.lt hown j hj), by
                rw [Hrec.out, show m - k = (m - (k + 1)) + 1 from by omega, rows_good Hrow.out]; rfl⟩
              case measure => simp [intOf]; omega
          · have Hbb := Lib.hid (Hb.out [] f (by rw [Hrec.out, show m - k = (m - (k + 1)) + 1 from by omega, rows_bad Hrow.out]))
            go_wp2_with (go_at_call 24; refine (row_any _ ((b.drop (12 + 16 * k)).take 16) N (12 + 16 * k) _ (piece_any (R0.out.ext hg) (12 + 16 * k) (12 + 16 * k) (12 + 16 * k + 16) (by omega) (by omega) (by omega) (by omega)) (by simp; omega) (by omega)).mono ?_; rintro e w2 ⟨he, g2⟩; rw [Hrow.out] at he; obtain rfl := he; simp only [Ed.v, Ed.cells, errV, u32v, u64v])
            go_ret3
            exact ⟨⟨_, by rw [Hbb.out]; rfl, by rw [Hbb.out]; exact OwnE.nil _ _⟩, gr_none (gr_none hg g2) (gr_alloc _ _ _)⟩
        by_cases h2 : 12 + 16 * k ≤ b.length
        · rcases hrow : rowM ((b.drop (12 + 16 * k)).take 16) N (12 + 16 * k) with ⟨⟨xt, xh, xw, xm⟩, f⟩
          have Hrow := Lib.hid hrow
          clear hrow
          have hpp : ((12 + 16 * k : Nat) : Int) = 12 + 16 * (k : Int) := by omega
          rcases f with _ | f
          · go_wp2_with (first | (go_at_call 24; refine (row_any _ ((b.drop (12 + 16 * k)).take 16) N (12 + 16 * k) _ (piece_any (R0.out.ext hg) (12 + 16 * k) (12 + 16 * k) (b.length) (by omega) (by omega) (by omega) (by omega)) (by simp; omega) (by omega)).mono ?_; rintro e w2 ⟨he, g2⟩; rw [Hrow.out] at he; obtain rfl := he; simp only [Ed.v, Ed.cells, errV, u32v, u64v]) | (at_builtin; refine wp_app1E ⟨xt, xh, xw, xm⟩ _ rfl rfl (.tmp 45) (.tmp 47) rfl rfl ((hown.ext g2).ext (gr_alloc _ _ _)) _ rfl ?_ ?_ ?_ ?_))
            · simp
            · rw [Hacc.out]; omega
            · have := g2.size; simp; omega
            · intro v3 w3 h3 g3 a3
              go_wp2
              go_roundw
              case rel => exact ⟨k + 1, acc ++ [⟨xt, xh, xw, xm⟩], by omega, by go_num, by go_num, by simp [Hacc.out], h3, gr_trans (gr_none (gr_none hg g2) (gr_alloc _ _ _)) g3 (.inr fun j hj => Own.lt hown j hj), by
                rw [Hrec.out, show m - k = (m - (k + 1)) + 1 from by omega, rows_good Hrow.out]; rfl⟩
              case measure => simp [intOf]; omega
          · have Hbb := Lib.hid (Hb.out [] f (by rw [Hrec.out, show m - k = (m - (k + 1)) + 1 from by omega, rows_bad Hrow.out]))
            go_wp2_with (go_at_call 24; refine (row_any _ ((b.drop (12 + 16 * k)).take 16) N (12 + 16 * k) _ (piece_any (R0.out.ext hg) (12 + 16 * k) (12 + 16 * k) (b.length) (by omega) (by omega) (by omega) (by omega)) (by simp; omega) (by omega)).mono ?_; rintro e w2 ⟨he, g2⟩; rw [Hrow.out] at he; obtain rfl := he; simp only [Ed.v, Ed.cells, errV, u32v, u64v])
            go_ret3
            exact ⟨⟨_, by rw [Hbb.out]; rfl, by rw [Hbb.out]; exact OwnE.nil _ _⟩, gr_none (gr_none hg g2) (gr_alloc _ _ _)⟩
        · rcases hrow : rowM ((b.drop (12 + 16 * k)).take 16) N (12 + 16 * k) with ⟨⟨xt, xh, xw, xm⟩, f⟩
          have Hrow := Lib.hid hrow
          clear hrow
          have hpp : ((12 + 16 * k : Nat) : Int) = 12 + 16 * (k : Int) := by omega
          rcases f with _ | f
          · go_wp2_with (first | (go_at_call 24; refine (row_any _ ((b.drop (12 + 16 * k)).take 16) N (12 + 16 * k) _ (piece_any (R0.out.ext hg) (12 + 16 * k) (b.length) (b.length) (by omega) (by omega) (by omega) (by omega)) (by simp; omega) (by omega)).mono ?_; rintro e w2 ⟨he, g2⟩; rw [Hrow.out] at he; obtain rfl := he; simp only [Ed.v, Ed.cells, errV, u32v, u64v]) | (at_builtin; refine wp_app1E ⟨xt, xh, xw, xm⟩ _ rfl rfl (.tmp 45) (.tmp 47) rfl rfl ((hown.ext g2).ext (gr_alloc _ _ _)) _ rfl ?_ ?_ ?_ ?_))
            · simp
            · rw [Hacc.out]; omega
            · have := g2.size; simp; omega
            · intro v3 w3 h3 g3 a3
              go_wp2
              go_roundw
              case rel => exact ⟨k + 1, acc ++ [⟨xt, xh, xw, xm⟩], by omega, by go_num, by go_num, by simp [Hacc.out], h3, gr_trans (gr_none (gr_none hg g2) (gr_alloc _ _ _)) g3 (.inr fun j hj => Own.lt hown j hj), by
                rw [Hrec.out, show m - k = (m - (k + 1)) + 1 from by omega, rows_good Hrow.out]; rfl⟩
              case measure => simp [intOf]; omega
          · have Hbb := Lib.hid (Hb.out [] f (by rw [Hrec.out, show m - k = (m - (k + 1)) + 1 from by omega, rows_bad Hrow.out]))
            go_wp2_with (go_at_call 24; refine (row_any _ ((b.drop (12 + 16 * k)).take 16) N (12 + 16 * k) _ (piece_any (R0.out.ext hg) (12 + 16 * k) (b.length) (b.length) (by omega) (by omega) (by omega) (by omega)) (by simp; omega) (by omega)).mono ?_; rintro e w2 ⟨he, g2⟩; rw [Hrow.out] at he; obtain rfl := he; simp only [Ed.v, Ed.cells, errV, u32v, u64v])
            go_ret3
            exact ⟨⟨_, by rw [Hbb.out]; rfl, by rw [Hbb.out]; exact OwnE.nil _ _⟩, gr_none (gr_none hg g2) (gr_alloc _ _ _)⟩
      · obtain rfl : k = m := by omega
        have hr0 := Hrec.out
        rw [Nat.sub_self, rowsM] at hr0
        by_cases h1 : 12 + 16 * k < b.length
        · rw [if_pos h1] at hr0
          have Hbb := Lib.hid (Hb.out _ _ hr0)
          clear hr0
          go_wp2
          go_ret3
          exact ⟨⟨_, by rw [Hbb.out]; rfl, by rw [Hbb.out]; exact OwnE.nil _ _⟩, hg⟩
        · rw [if_neg h1] at hr0
          have Hbb := Lib.hid (Hg.out _ hr0)
          clear hr0
          go_wp2
          go_ret3
          exact ⟨⟨_, by rw [Hbb.out]; rfl, by rw [Hbb.out]; exact hown⟩, hg⟩
  · have Hbb := Lib.hid (check_head hh)
    clear hh
    go_enter Tryd.func25, Tryd.ntmps25
    go_wp2_with (go_at_call 22; refine Hhead.out.mono ?_; rintro e w1 ⟨rfl, g1⟩; simp only [errV])
    go_ret3
    exact ⟨⟨_, by rw [Hbb.out]; rfl, by rw [Hbb.out]; exact OwnE.nil _ _⟩, g1⟩
end Go.Proofs.YthckjpcknmmagaaDoor
