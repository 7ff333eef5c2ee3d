/-
  InputChecks, the law's own walk.
-/
import Derived.Test.YtikgobndekgjcaaDoorWorks
namespace Go.Proofs.YtikgobndekgjcaaDoor
open Go.RowKit
set_option maxRecDepth 100000
set_option maxHeartbeats 400000

theorem Own.cap {w : World} {B s n c : Nat} {A : Option Addr} {xs : List Value} (h : Own w B s (.slice A n c) n xs) : n ≤ c := by
  obtain ⟨_, _, _, _, _, e, hn, _⟩ := h; cases e; exact hn
/-- the four cells of an element of an owned slice of edges; a store of four cells keeps it owned. -/
theorem Own.four {w : World} {B n c : Nat} {A : Option Addr} {xs : List Value} (h : Own w B 4 (.slice A n c) n xs) {k : Nat} (hk : k < n) :
    ∃ g off, A = some ⟨g, off, none⟩ ∧ B ≤ g ∧
      (∃ u0 u1 u2 u3, w.cell? ⟨g, off + k * 4, none⟩ = some u0 ∧ w.cell? ⟨g, off + k * 4 + 1, none⟩ = some u1 ∧ w.cell? ⟨g, off + k * 4 + 2, none⟩ = some u2 ∧ w.cell? ⟨g, off + k * 4 + 3, none⟩ = some u3) ∧
      (w.frozen? ⟨g, off + k * 4, none⟩ = false ∧ w.frozen? ⟨g, off + k * 4 + 1, none⟩ = false ∧ w.frozen? ⟨g, off + k * 4 + 2, none⟩ = false ∧ w.frozen? ⟨g, off + k * 4 + 3, none⟩ = false) ∧
      ∀ x0 x1 x2 x3, ∃ ys, Own ((((w.setCell ⟨g, off + k * 4, none⟩ x0).setCell ⟨g, off + k * 4 + 1, none⟩ x1).setCell ⟨g, off + k * 4 + 2, none⟩ x2).setCell ⟨g, off + k * 4 + 3, none⟩ x3) B 4 (.slice A n c) n ys := by
  have h0 := h
  obtain ⟨hl, A', c', g, off, e, hn, hc, hA0, hA, hB, hx, hf⟩ := h
  cases e
  have hA' := hA (by omega)
  subst hA'
  have hs : ∀ j, j < 4 → ∃ u, w.cell? ⟨g, off + (k * 4 + j), none⟩ = some u := fun j hj => Option.isSome_iff_exists.1 (hf (k * 4 + j) (by omega)).1
  have hz : ∀ j, j < 4 → w.frozen? ⟨g, off + (k * 4 + j), none⟩ = false := fun j hj => (hf (k * 4 + j) (by omega)).2
  obtain ⟨u0, e0⟩ := hs 0 (by omega)
  obtain ⟨u1, e1⟩ := hs 1 (by omega)
  obtain ⟨u2, e2⟩ := hs 2 (by omega)
  obtain ⟨u3, e3⟩ := hs 3 (by omega)
  refine ⟨g, off, rfl, hB _ rfl, ⟨u0, u1, u2, u3, e0, e1, e2, e3⟩, ⟨hz 0 (by omega), hz 1 (by omega), hz 2 (by omega), hz 3 (by omega)⟩, fun x0 x1 x2 x3 => ?_⟩
  have s0 := Own.set rfl h0 (j := k * 4 + 0) (by omega) x0
  have s1 := Own.set rfl s0 (j := k * 4 + 1) (by omega) x1
  have s2 := Own.set rfl s1 (j := k * 4 + 2) (by omega) x2
  have s3 := Own.set rfl s2 (j := k * 4 + 3) (by omega) x3
  exact ⟨_, s3⟩

theorem rowsM_len (b : List UInt8) (n : UInt32) : ∀ (k p : Nat) (acc : List Ed), (rowsM b n k p acc).1.length ≤ acc.length + k
  | 0, p, acc => by unfold rowsM; split <;> simp
  | k + 1, p, acc => by
    unfold rowsM
    split
    · simp
    · have := rowsM_len b n k (p + 16) (acc ++ [‹Ed›])
      simp at this ⊢
      omega
theorem checkM_len (b : List UInt8) : (checkM b).2.1.length ≤ 16777216 := by
  unfold checkM
  split
  · simp
  · rename_i n m hh
    have h1 := head_bound hh
    have h2 := rowsM_len b (UInt32.ofNat n) m 12 []
    split
    · simp
    · rename_i l hr
      rw [hr] at h2
      simp at h2 ⊢
      omega
/-- Kept, where it says so. -/
theorem kept_true (A : Option Addr) (n c : Nat) (vb : Value) (l : List UInt8) (w : World) (hm : l.length = n) (h : RdB w (.slice A (l ++ guardB).length c) (l ++ guardB)) (hb : RdB w vb l) (hl : l.length ≤ 100000000) :
    Calls Tryd.prog 19 #[.slice A n c, vb] w fun e w' => e = .returned (.bool true) ∧ w.grownBy w' none :=
  (kept_any A n c vb (l ++ guardB) l w (by simp [guardB]; omega) h hb (by simp [guardB]; omega) (by omega)).mono fun _ _ ⟨e, g⟩ => ⟨by rw [e, beq_self_eq_true], g⟩

set_option maxHeartbeats 2000000 in
theorem checks_any (v : Value) (b : List UInt8) (w : World) (hg : Glob w) (h : RdB w v b) :
    Calls Tryd.prog 3 #[v] w fun e w' => e = .returned (.bool true) ∧ w.grownBy w' none := by
  obtain ⟨A, c, rfl⟩ := h.form
  by_cases hl : 131072 < b.length
  · go_enter Tryd.func3, Tryd.ntmps3
    go_wp2_with (go_at_call 14; refine (works_any _ hg).mono ?_; rintro e w1 ⟨rfl, g1⟩)
    go_ret
    exact ⟨rfl, g1⟩
  have Hr := Lib.hid h
  have Hg := Lib.hid hg
  have hroom := roomy_any _ b w h (by omega)
  have Hroom := Lib.hid hroom
  clear hroom h hg
  go_enter Tryd.func3, Tryd.ntmps3
  go_wp2_with fail
  refine Hroom.out.mono ?_
  rintro e w1 ⟨⟨A1, c1, rfl, o1⟩, g1⟩
  have R1 := Lib.hid o1.rd
  have hlen : (b ++ guardB).length = b.length + 7 := by simp [guardB]
  have ht : RdB w1 (.slice A1 b.length c1) b := by
    have := (Own.take (k := b.length) o1 (by omega)).rd
    rw [← List.map_take, List.take_left] at this
    exact this
  have G1 := Lib.hid g1
  have hc := Check_any _ b w1 (Hg.out.ext g1) ht (by omega)
  have hrc := fun wx (hx : w.grownBy wx none) => rcheck_any _ b wx (Hr.out.ext hx) (by omega)
  unfold ResC4 at hc hrc
  have hL := checkM_len b
  generalize checkM b = r at *
  obtain ⟨n, l, f⟩ := r
  have Hc := Lib.hid hc
  have Hrc := Lib.hid hrc
  have hll : l.length ≤ 16777216 := hL
  clear hc hrc ht o1 g1 hlen hL
  go_wp2_with fail
  refine Hc.out.mono ?_
  rintro e w2 ⟨⟨v2, rfl, o2⟩, g2⟩
  have G2 := Lib.hid (gr_none G1.out g2)
  go_wp2_with fail
  refine (Hrc.out _ G2.out).mono ?_
  rintro e w3 ⟨⟨v3, rfl, o3⟩, g3⟩
  have G3 := Lib.hid (gr_none G2.out g3)
  have R23 := gr_none g2 g3
  obtain ⟨A2, q2, rfl⟩ := o2.rd.form
  have O2 := Lib.hid (o2.ext g3)
  have O3 := Lib.hid o3
  have HR := Lib.hid R23
  clear o2 o3 g2 g3 R23
  go_wp2_with (first
    | (go_at_call 18; refine (eqE_any _ _ l l _ O2.out.rd O3.out.rd (by omega) (by omega)).mono ?_; rintro e w4 ⟨⟨bb, rfl, hbb⟩, g4⟩; obtain rfl := hbb.2 rfl)
    | (go_at_call 19; refine (kept_true A1 b.length c1 _ b _ rfl (R1.out.ext (gr_none HR.out g4)) (Hr.out.ext (gr_none G3.out g4)) (by omega)).mono ?_; rintro e w5 ⟨rfl, g5⟩))
  have HK := Lib.hid (gr_none (gr_none HR.out g4) g5)
  have O5 : Own w5 w1.heap.size 4 (.slice A2 l.length q2) l.length (edL l) := (O2.out.ext g4).ext g5
  have hcap := O5.cap
  clear g4 g5
  go_loopw [12] (fun i wr => ∃ (k : Nat) (xs : List Value), k ≤ l.length ∧ i = .int .i64 k ∧ Own wr w1.heap.size 4 (.slice A2 l.length q2) l.length xs ∧ w1.grownBy wr none)
    (fun i _ => l.length - (intOf i).toNat)
  case atStart => exact ⟨0, _, by omega, rfl, O5, HK.out⟩
  case round =>
    obtain ⟨k, xs, hk, rfl, hown, hg⟩ := hrel
    by_cases hlt : k < l.length
    · obtain ⟨g, off, rfl, hBg, ⟨u0, u1, u2, u3, e0, e1, e2, e3⟩, ⟨z0, z1, z2, z3⟩, hset⟩ := hown.four hlt
      have Hset := Lib.hid hset
      have Hgg := Lib.hid hg
      clear hset hown hg
      go_wp2
      obtain ⟨ys, hys⟩ := Hset.out (.int .u32 0) (.int .u32 0) (.int .u64 0) (.int .u32 0)
      go_roundw
      case rel => exact ⟨k + 1, ys, by omega, by go_num, hys, by repeat (first | exact Hgg.out | refine gr_set_new ?_ _ _ hBg)⟩
      case measure => simp [intOf]; omega
    · have Hgg := Lib.hid (gr_none G1.out hg)
      have hg2 := Lib.hid hg
      clear hown hg
      go_wp2_with (first
        | (go_at_call 19; refine (kept_true A1 b.length c1 _ b _ rfl (R1.out.ext hg2.out) (Hr.out.ext Hgg.out) (by omega)).mono ?_; rintro e w6 ⟨rfl, g6⟩)
        | (go_at_call 14; refine (works_any _ (Hg.out.ext (gr_none Hgg.out g6))).mono ?_; rintro e w7 ⟨rfl, g7⟩))
      go_ret
      exact ⟨rfl, gr_none (gr_none Hgg.out g6) g7⟩
end Go.Proofs.YtikgobndekgjcaaDoor
