/-
  The document's Reduce: places in a list that rises; edges stored into lists.
-/
import Derived.Test.YthckjpcknmmagaaDoorIred
namespace Go.Proofs.YthckjpcknmmagaaDoor.R
open Go.RowKit
set_option maxRecDepth 100000
set_option maxHeartbeats 400000

def LowE (l : List Ed) (x : Ed) (k : Nat) : Prop := ∀ i (h : i < l.length), i < k → kn l[i] < kn x
theorem LowE.succ {l : List Ed} {x : Ed} {k : Nat} (h : LowE l x k) (hk : k < l.length) (hl : kn l[k] < kn x) : LowE l x (k + 1) := by
  intro i hi h2
  by_cases e : i = k
  · subst e; exact hl
  · exact h i hi (by omega)
theorem LowE.tail {y : Ed} {r : List Ed} {x : Ed} {k : Nat} (h : LowE (y :: r) x (k + 1)) : LowE r x k := fun i hi h2 => h (i + 1) (by simpa using hi) (by omega)
theorem putLE_ins {l : List Ed} {x : Ed} {k : Nat} (h : LowE l x k) (hk : k ≤ l.length) (hn : ∀ (hk : k < l.length), kn x < kn l[k]) : putLE l x = l.take k ++ x :: l.drop k := by
  induction l generalizing k with
  | nil => simp [putLE]
  | cons y r ih =>
    cases k with
    | zero =>
      have := hn (by simp)
      simp at this
      simp only [putLE]
      rw [if_neg (by omega), if_neg (by omega)]; rfl
    | succ k =>
      have h0 := h 0 (by simp) (by omega)
      simp at h0
      simp only [putLE]
      rw [if_pos h0, ih h.tail (by simpa using hk) (fun hk2 => by have := hn (by simpa using hk2); simpa using this)]
      rfl
theorem putLE_set {l : List Ed} {x : Ed} {k : Nat} (h : LowE l x k) (hk : k < l.length) (he : kn l[k] = kn x) (ha : wn x < wn l[k]) : putLE l x = l.set k x := by
  induction l generalizing k with
  | nil => simp at hk
  | cons y r ih =>
    cases k with
    | zero =>
      simp at he ha
      simp only [putLE]
      rw [if_neg (by omega), if_pos he, if_pos ha]; rfl
    | succ k =>
      have h0 := h 0 (by simp) (by omega)
      simp at h0
      simp only [putLE]
      rw [if_pos h0, ih h.tail (by simpa using hk) (by simpa using he) (by simpa using ha)]
      rfl
theorem putLE_keep {l : List Ed} {x : Ed} {k : Nat} (h : LowE l x k) (hk : k < l.length) (he : kn l[k] = kn x) (ha : ¬ wn x < wn l[k]) : putLE l x = l := by
  induction l generalizing k with
  | nil => simp at hk
  | cons y r ih =>
    cases k with
    | zero =>
      simp at he ha
      simp only [putLE]
      rw [if_neg (by omega), if_pos he, if_neg (by omega)]
    | succ k =>
      have h0 := h 0 (by simp) (by omega)
      simp at h0
      simp only [putLE]
      rw [if_pos h0, ih h.tail (by simpa using hk) (by simpa using he) (by simpa using ha)]
theorem OwnG.at_ {α : Type} {enc : α → List Value} {s : Nat} (hk : ∀ x, (enc x).length = s) {w : World} {B : Nat} {A : Option Addr} {c : Nat} {l : List α} (h : OwnG enc s w B (.slice A l.length c) l) : ∃ g off, (0 < c → A = some ⟨g, off, none⟩) ∧ l.length ≤ c ∧
    (∀ i (hi : i < l.length), ∀ j, j < s → w.cell? ⟨g, off + i * s + j, none⟩ = (enc l[i])[j]? ∧ w.frozen? ⟨g, off + i * s + j, none⟩ = false) := by
  obtain ⟨_, _, _, g, off, e, hn, hc, _, hA, _, hx, hf⟩ := h
  cases e
  refine ⟨g, off, fun h0 => hA (by omega), hn, fun i hi j hj => ?_⟩
  have hij : i * s + j < l.length * s := by
    have : (i + 1) * s ≤ l.length * s := Nat.mul_le_mul_right s hi
    rw [Nat.add_mul] at this; omega
  have hle : l.length * s ≤ c * s := Nat.mul_le_mul_right s hn
  rw [Nat.add_assoc]
  exact ⟨by rw [hx _ hij, flat_at hk l hi hj], (hf _ (by omega)).2⟩
theorem at8O {w : World} {g off : Nat} {l : List Ed} (hc : ∀ i (hi : i < l.length), ∀ j, j < 4 → w.cell? ⟨g, off + i * 4 + j, none⟩ = (l[i].enc)[j]? ∧ w.frozen? ⟨g, off + i * 4 + j, none⟩ = false) {k : Nat} (hk : k < l.length) {a b d : UInt32} {c : UInt64} (e : l[k] = ⟨a, b, c, d⟩) :
    (w.cell? ⟨g, off + k * 4, none⟩ = some (.int .u32 a.toNat) ∧ w.cell? ⟨g, off + k * 4 + 1, none⟩ = some (.int .u32 b.toNat) ∧ w.cell? ⟨g, off + k * 4 + 2, none⟩ = some (.int .u64 c.toNat) ∧ w.cell? ⟨g, off + k * 4 + 3, none⟩ = some (.int .u32 d.toNat)) ∧
    w.frozen? ⟨g, off + k * 4, none⟩ = false ∧ w.frozen? ⟨g, off + k * 4 + 1, none⟩ = false ∧ w.frozen? ⟨g, off + k * 4 + 2, none⟩ = false ∧ w.frozen? ⟨g, off + k * 4 + 3, none⟩ = false := by
  have h0 := hc k hk 0 (by omega)
  have h1 := hc k hk 1 (by omega)
  have h2 := hc k hk 2 (by omega)
  have h3 := hc k hk 3 (by omega)
  rw [e] at h0 h1 h2 h3
  exact ⟨⟨h0.1, h1.1, h2.1, h3.1⟩, h0.2, h1.2, h2.2, h3.2⟩
theorem OwnE.lt_size {w : World} {B : Nat} {v : Value} {l : List Ed} (h : OwnE w B v l) (h0 : 0 < l.length) : ∀ k, v.ownBlock = some k → k < w.heap.size := by
  obtain ⟨_, A, c, g, off, rfl, hn, hc, _, hA, _, hx, hf⟩ := h
  intro k hk
  obtain rfl := hA (by omega)
  cases hk
  obtain ⟨u, hu⟩ := Option.isSome_iff_exists.1 (hf 0 (by omega)).1
  exact World.block_lt_of_cell? w _ hu
theorem ins_len {l : List Ed} {z : Ed} {i : Nat} (hi : i ≤ l.length) : (l.take i ++ z :: l.drop i).length = l.length + 1 := by simp; omega
theorem ins_at {l : List Ed} {z : Ed} {i : Nat} (hi : i < l.length) (h : i < (l.take (i + 1) ++ z :: l.drop (i + 1)).length) : (l.take (i + 1) ++ z :: l.drop (i + 1))[i] = l[i] := by
  rw [List.getElem_append_left (by simp; omega)]
  simp
theorem ins_step {l : List Ed} {z : Ed} {i : Nat} (hi : i < l.length) : (l.take (i + 1) ++ z :: l.drop (i + 1)).set (i + 1) l[i] = l.take i ++ l[i] :: l.drop i := by
  apply List.ext_getElem
  · simp; omega
  · intro j h1 h2
    rw [List.getElem_set]
    by_cases e : i + 1 = j
    · subst e
      rw [if_pos rfl, List.getElem_append_right (by simp; omega)]
      simp only [List.length_take]
      rw [List.getElem_cons]
      have e2 : ¬ i + 1 - min i l.length = 0 := by omega
      rw [dif_neg e2]
      simp only [List.getElem_drop]
      congr 1
      omega
    · rw [if_neg e]
      by_cases hj : j < i
      · rw [List.getElem_append_left (by simp; omega), List.getElem_append_left (by simp; omega)]
        simp
      · by_cases he : j = i
        · subst he
          rw [List.getElem_append_left (by simp; omega), List.getElem_append_right (by simp; omega)]
          simp [Nat.min_eq_left (Nat.le_of_lt hi)]
        · rw [List.getElem_append_right (by simp; omega), List.getElem_append_right (by simp; omega)]
          simp only [List.length_take]
          rw [List.getElem_cons, List.getElem_cons]
          have e1 : ¬ j - min (i + 1) l.length = 0 := by omega
          have e2 : ¬ j - min i l.length = 0 := by omega
          rw [dif_neg e1, dif_neg e2]
          simp only [List.getElem_drop]
          congr 1
          omega
theorem ins_end {l : List Ed} {z x : Ed} {k : Nat} (hk : k ≤ l.length) : (l.take k ++ z :: l.drop k).set k x = l.take k ++ x :: l.drop k := by
  rw [List.set_append_right _ _ (by simp; omega)]
  simp [Nat.min_eq_left hk]
theorem set_flatE {l : List Ed} {i : Nat} (hi : i < l.length) (x : Ed) : ((((l.flatMap Ed.enc).set (i * 4) (.int .u32 x.t.toNat)).set (i * 4 + 1) (.int .u32 x.h.toNat)).set (i * 4 + 2) (.int .u64 x.w.toNat)).set (i * 4 + 3) (.int .u32 x.m.toNat) = (l.set i x).flatMap Ed.enc := by
  induction l generalizing i with
  | nil => simp at hi
  | cons y r ih =>
    cases i with
    | zero => rfl
    | succ i =>
      rw [show (i + 1) * 4 = i * 4 + 4 from by omega]
      show ((((Value.int .u32 y.t.toNat :: Value.int .u32 y.h.toNat :: Value.int .u64 y.w.toNat :: Value.int .u32 y.m.toNat :: r.flatMap Ed.enc).set (i * 4 + 4) _).set (i * 4 + 4 + 1) _).set (i * 4 + 4 + 2) _).set (i * 4 + 4 + 3) _ = _
      have := ih (i := i) (by simpa using hi)
      rw [show (y :: r).set (i + 1) x = y :: r.set i x from rfl]
      show _ = Value.int .u32 y.t.toNat :: Value.int .u32 y.h.toNat :: Value.int .u64 y.w.toNat :: Value.int .u32 y.m.toNat :: (r.set i x).flatMap Ed.enc
      rw [← this]
      rfl
theorem OwnE.base {w : World} {B n c : Nat} {A : Option Addr} {l : List Ed} (h : OwnE w B (.slice A n c) l) (h0 : 0 < l.length) : ∃ g off, A = some ⟨g, off, none⟩ := by
  obtain ⟨_, A', c', g, off, e, hn, hc, _, hA, _⟩ := h
  cases e
  exact ⟨g, off, hA (by omega)⟩
theorem OwnE.at8 {w : World} {B n c g off : Nat} {l : List Ed} (h : OwnE w B (.slice (some ⟨g, off, none⟩) n c) l) {k : Nat} (hk : k < l.length) {a b d : UInt32} {e : UInt64} (he : l[k] = ⟨a, b, e, d⟩) :
    (w.cell? ⟨g, off + k * 4, none⟩ = some (.int .u32 a.toNat) ∧ w.cell? ⟨g, off + k * 4 + 1, none⟩ = some (.int .u32 b.toNat) ∧ w.cell? ⟨g, off + k * 4 + 2, none⟩ = some (.int .u64 e.toNat) ∧ w.cell? ⟨g, off + k * 4 + 3, none⟩ = some (.int .u32 d.toNat)) ∧
    w.frozen? ⟨g, off + k * 4, none⟩ = false ∧ w.frozen? ⟨g, off + k * 4 + 1, none⟩ = false ∧ w.frozen? ⟨g, off + k * 4 + 2, none⟩ = false ∧ w.frozen? ⟨g, off + k * 4 + 3, none⟩ = false := by
  have hn : n = l.length := by obtain ⟨A', c', e⟩ := h.rd.form; cases e; rfl
  subst hn
  obtain ⟨g', off', hA', hlc, hx⟩ := OwnG.at_ ed4 h
  have := hA' (by omega)
  cases this
  exact at8O hx hk he
def set4 (w : World) (g a : Nat) (x : Ed) : World := (((w.setCell ⟨g, a, none⟩ (.int .u32 x.t.toNat)).setCell ⟨g, a + 1, none⟩ (.int .u32 x.h.toNat)).setCell ⟨g, a + 2, none⟩ (.int .u64 x.w.toNat)).setCell ⟨g, a + 3, none⟩ (.int .u32 x.m.toNat)
theorem gr_set4 (w : World) (g a : Nat) (x : Ed) : w.grownBy (set4 w g a x) (some g) :=
  gr_trans (gr_trans (gr_trans (gr_setCell w ⟨g, a, none⟩ _) (gr_setCell _ ⟨g, a + 1, none⟩ _) (.inl rfl)) (gr_setCell _ ⟨g, a + 2, none⟩ _) (.inl rfl)) (gr_setCell _ ⟨g, a + 3, none⟩ _) (.inl rfl)
/-- an edge is stored into a list of the call's own. -/
theorem OwnE.set {w : World} {B n c g off : Nat} {A : Option Addr} {l : List Ed} (h : OwnE w B (.slice A n c) l) (hA : A = some ⟨g, off, none⟩) {i : Nat} (hi : i < l.length) (x : Ed) :
    OwnE (set4 w g (off + i * 4) x) B (.slice A n c) (l.set i x) := by
  have hn : n = l.length := by obtain ⟨A', c', e⟩ := h.rd.form; cases e; rfl
  subst hn
  unfold OwnE OwnG at *
  have hi4 : (i + 1) * 4 ≤ l.length * 4 := Nat.mul_le_mul_right 4 hi
  have h1 := Go.Proofs.YthckjpcknmmagaaDoor.Own.set hA h (j := i * 4) (by omega) (.int .u32 x.t.toNat)
  have h2 := Go.Proofs.YthckjpcknmmagaaDoor.Own.set hA h1 (j := i * 4 + 1) (by omega) (.int .u32 x.h.toNat)
  have h3 := Go.Proofs.YthckjpcknmmagaaDoor.Own.set hA h2 (j := i * 4 + 2) (by omega) (.int .u64 x.w.toNat)
  have h4 := Go.Proofs.YthckjpcknmmagaaDoor.Own.set hA h3 (j := i * 4 + 3) (by omega) (.int .u32 x.m.toNat)
  rw [set_flatE hi] at h4
  rw [List.length_set]
  unfold set4
  simpa [Nat.add_assoc] using h4
theorem gr_own {w wr w7 wq : World} {r : Option Nat} {g : Nat} (h1 : w.grownBy wr none) (h2 : wr.grownBy w7 r) (h3 : w7.grownBy wq (some g)) (h : some g = r ∨ ∃ k, some g = some k ∧ wr.heap.size ≤ k) : w.grownBy wq r :=
  gr_trans (gr_trans (gr_of_none h1) h2 (.inl rfl)) h3 (by
    rcases h with h | ⟨k, h, hk⟩
    · exact .inl h
    · exact .inr fun q e => by cases e; cases h; have := h1.size; omega)
/-- append of one edge. -/
theorem wp_app1E {ops : Array Oper} {rest : List Oper} {o : Oper} {a : Act} {Q : Exit → Act → World → Prop} {w : World} (r : Ed) (C : Array Value) (hC : C.toList = r.enc) (hgd : o.guard = none) (s0 x0 : Operand)
    (ho : o.op = .call { callee := .builtin .append, args := #[s0, x0], argTypes := #[22, 22] }) {B : Nat} {v : Value} {l : List Ed} (hs : a.eval s0 = v) (hown : OwnE w B v l)
    (g : Nat) (hx : a.eval x0 = .slice (some ⟨g, 0, none⟩) 1 1) (hg : g = w.heap.size) (hn : l.length ≤ 1000000000) (hB : B ≤ w.heap.size)
    (h : ∀ v' w', OwnE w' B v' (l ++ [r]) → w.grownBy w' v.ownBlock → (v'.ownBlock = v.ownBlock ∨ ∃ k, v'.ownBlock = some k ∧ w.heap.size ≤ k) → wpList Tryd.prog ops Q rest (a.put o.dst v') w') :
    wpList Tryd.prog ops Q (o :: rest) a (w.alloc (.cells C 29)) := by
  subst hg
  have he : [r].flatMap Ed.enc = C.toList := by simp [hC]
  have hC3 : C.size = 4 := by rw [← Array.length_toList, hC]; rfl
  exact wp_app1 w C hgd s0 x0 _ ho B 29 _ 4 24 Tryd.underlying22 Tryd.infoE rfl (by omega) v _ _ hs hown hx hC3 (by rw [← he]; exact ed_one [r]) (by unfold maxLen; omega) (by omega) hB
    fun v' w' h1 h2 h3 => h v' w' (ownE_app (m := [r]) (by rw [he]; exact h1)) h2 h3
end Go.Proofs.YthckjpcknmmagaaDoor.R
