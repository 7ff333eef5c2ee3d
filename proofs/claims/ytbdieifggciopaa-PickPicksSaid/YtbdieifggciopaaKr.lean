/-
  Pick: the document's rising: one more in its place.
-/
import Derived.Test.YtbdieifggciopaaKn
namespace Go.Proofs.Ytbdieifggciopaa
open Go.RowKit
set_option maxRecDepth 100000
set_option maxHeartbeats 400000

def insL (l : List UInt32) (i : Nat) (u : UInt32) : List UInt32 := l.take i ++ u :: l.drop i
theorem insL_len (l : List UInt32) (i : Nat) (u : UInt32) : (insL l i u).length = l.length + 1 := by unfold insL; simp; omega
theorem insL_end (l : List UInt32) (u : UInt32) : insL l l.length u = l ++ [u] := by simp [insL]
theorem insL_mem (l : List UInt32) (i : Nat) (u y : UInt32) : y ∈ insL l i u ↔ y = u ∨ y ∈ l := by
  have e : y ∈ l ↔ y ∈ l.take i ∨ y ∈ l.drop i := by rw [← List.mem_append, List.take_append_drop]
  unfold insL
  rw [List.mem_append, List.mem_cons, e]
  constructor
  · rintro (h | h | h)
    · exact .inr (.inl h)
    · exact .inl h
    · exact .inr (.inr h)
  · rintro (h | h | h)
    · exact .inr (.inl h)
    · exact .inl h
    · exact .inr (.inr h)
theorem insL_split (l : List UInt32) {k : Nat} (hk : k < l.length) (u : UInt32) : insL l (k + 1) u = l.take k ++ l[k] :: u :: l.drop (k + 1) := by
  unfold insL
  rw [List.take_succ_eq_append_getElem hk, List.append_assoc]; rfl
theorem swap_set {α : Type} (P R : List α) (a b : α) : ((P ++ a :: b :: R).set (P.length + 1) a).set P.length b = P ++ b :: a :: R := by
  induction P with
  | nil => rfl
  | cons x P _ => simp
theorem insL_step (l : List UInt32) {k : Nat} (hk : k < l.length) (u : UInt32) : ((insL l (k + 1) u).set (k + 1) l[k]).set k u = insL l k u := by
  have e : (l.take k).length = k := by rw [List.length_take]; omega
  have := swap_set (l.take k) (l.drop (k + 1)) l[k] u
  rw [e] at this
  rw [insL_split l hk, this]
  unfold insL
  rw [List.drop_eq_getElem_cons hk]
theorem insL_at (l : List UInt32) {k : Nat} (hk : k < l.length) (u : UInt32) : (insL l (k + 1) u)[k]? = some l[k] := by
  rw [insL_split l hk, List.getElem?_append_right (by rw [List.length_take]; omega), List.length_take, Nat.min_eq_left (by omega), Nat.sub_self]; rfl
theorem insL_ris {l : List UInt32} (h : RisS l) {k : Nat} {u : UInt32} (h1 : ∀ y ∈ l.drop k, u.toNat < y.toNat) (h2 : ∀ y ∈ l.take k, y.toNat < u.toNat) : RisS (insL l k u) := by
  unfold RisS insL at *
  have h' := h
  rw [← List.take_append_drop k l, List.pairwise_append] at h'
  obtain ⟨a, b, c⟩ := h'
  rw [List.pairwise_append, List.pairwise_cons]
  refine ⟨a, ⟨h1, b⟩, fun x hx y hy => ?_⟩
  rcases List.mem_cons.1 hy with rfl | hy
  · exact h2 x hx
  · exact c x hx y hy
theorem ris_take {l : List UInt32} (h : RisS l) {k : Nat} (hk : k < l.length) {u : UInt32} (hu : l[k].toNat < u.toNat) : ∀ y ∈ l.take (k + 1), y.toNat < u.toNat := by
  intro y hy
  rw [List.take_succ_eq_append_getElem hk, List.mem_append, List.mem_singleton] at hy
  rcases hy with hy | rfl
  · have h' := h
    unfold RisS at h'
    rw [← List.take_append_drop k l, List.pairwise_append] at h'
    have := h'.2.2 y hy l[k] (by rw [List.drop_eq_getElem_cons hk]; exact List.mem_cons_self ..)
    omega
  · exact hu
theorem encL_set (l : List UInt32) (i : Nat) (u : UInt32) : encL (l.set i u) = (encL l).set i (.int .u32 u.toNat) := by unfold encL; rw [List.map_set]
/-- the slice under way. -/
def InsS (w : World) (B : Nat) (A : Option Addr) (c : Nat) (l : List UInt32) (k : Nat) (u : UInt32) : Prop := Own w B 1 (.slice A (l.length + 1) c) (l.length + 1) (encL (insL l k u))
theorem InsS.two {w : World} {B c g off : Nat} {l : List UInt32} {k : Nat} {u : UInt32} (h : InsS w B (some ⟨g, off, none⟩) c l (k + 1) u) (hk : k < l.length) :
    (w.cell? ⟨g, off + k, none⟩ = some (.int .u32 l[k].toNat) ∧ w.frozen? ⟨g, off + k, none⟩ = false ∧ (∃ z, w.cell? ⟨g, off + (k + 1), none⟩ = some z) ∧ w.frozen? ⟨g, off + (k + 1), none⟩ = false) ∧
    InsS ((w.setCell ⟨g, off + (k + 1), none⟩ (.int .u32 l[k].toNat)).setCell ⟨g, off + k, none⟩ (.int .u32 u.toNat)) B (some ⟨g, off, none⟩) c l k u := by
  have h' := h
  obtain ⟨hl, A', c', g', off', e, hn, hc, hA0, hA, hb, hx, hf⟩ := h'
  cases e
  cases hA (by omega)
  have h0 := hx k (by omega)
  have e0 : (encL (insL l (k + 1) u))[k]? = some (.int .u32 l[k].toNat) := by unfold encL; rw [List.getElem?_map, insL_at l hk]; rfl
  rw [e0] at h0
  refine ⟨⟨h0, (hf k (by omega)).2, Option.isSome_iff_exists.1 (hf (k + 1) (by omega)).1, (hf (k + 1) (by omega)).2⟩, ?_⟩
  unfold InsS at *
  have h1 := Go.Proofs.Ytbdieifggciopaa.Own.set rfl h (j := k + 1) (by omega) (.int .u32 l[k].toNat)
  have h2 := Go.Proofs.Ytbdieifggciopaa.Own.set rfl h1 (j := k) (by omega) (.int .u32 u.toNat)
  rw [← encL_set, ← encL_set, insL_step l hk] at h2
  exact h2
set_option maxHeartbeats 4000000 in
theorem rising_any (v : Value) (l : List UInt32) (u : UInt32) (B : Nat) (w : World) (h : OwnU w B v l) (hB : B ≤ w.heap.size) (hn : l.length ≤ 1000000) (hr : RisS l) (hu : u ∉ l) :
    Calls Try.prog 23 #[v, .int .u32 u.toNat] w fun e w' => ∃ v' l', e = .returned v' ∧ OwnU w' B v' l' ∧ RisS l' ∧ (∀ y, y ∈ l' ↔ y = u ∨ y ∈ l) ∧ l'.length = l.length + 1 ∧ ∀ w0 : World, w0.heap.size ≤ B → w0.grownBy w none → w0.grownBy w' none := by
  obtain ⟨A, c, rfl⟩ := RdU.form (Own.rd h)
  have HO := Lib.hid h
  have HRS := Lib.hid hr
  have HNU := Lib.hid hu
  clear h hr hu
  have HO1 := Lib.hid (HO.out.ext (gr_refl w none))
  go_enter Try.func23, Try.ntmps23
  go_wp2_with (at_builtin; refine wp_app1U (w := w) (B := B) u _ rfl rfl (.tmp 6) (.tmp 8) rfl rfl HO.out _ rfl rfl (by omega) hB ?_; intro v1 w1 h1 g1 a1; obtain ⟨A1, c1, rfl⟩ := RdU.form (Own.rd h1); have H1 := Lib.hid h1; have G1 := Lib.hid g1; clear h1 g1 a1)
  have HS0 : Hid (InsS w1 B A1 c1 l l.length u) := by
    show Own _ _ _ _ _ _
    have h1 := H1.out
    rw [insL_end]
    unfold OwnU at h1
    rw [List.length_append] at h1
    exact h1
  have HG1 : Hid (∀ w0 : World, w0.heap.size ≤ B → w0.grownBy w none → w0.grownBy w1 none) := fun w0 h0 hg => gr_trans hg G1.out (.inr fun q e => Nat.le_trans h0 (Own.lt HO.out q e))
  obtain ⟨g, off, hA⟩ : ∃ g off, A1 = some ⟨g, off, none⟩ ∧ B ≤ g := by
    obtain ⟨hl, A', c', g', off', e, hn, hc, hA0, hA, hb, hx, hf⟩ := HS0.out
    cases e
    have := hA (by omega)
    exact ⟨g', off', this, hb _ this⟩
  obtain ⟨rfl, hBg⟩ := hA
  clear H1 G1
  go_loopw [5] (fun i wr => ∃ k : Nat, k ≤ l.length ∧ i = .int .i64 k ∧ Hid (InsS wr B (some ⟨g, off, none⟩) c1 l k u) ∧ Hid (∀ y ∈ l.drop k, u.toNat < y.toNat) ∧ Hid (∀ w0 : World, w0.heap.size ≤ B → w0.grownBy w none → w0.grownBy wr none)) (fun i _ => (intOf i).toNat)
  case atStart => exact ⟨l.length, by omega, rfl, HS0, Lib.hid (by simp), HG1⟩
  case round =>
    obtain ⟨k, hk, rfl, hs, hd, hg⟩ := hrel
    have HEND : Hid ((∀ y ∈ l.take k, y.toNat < u.toNat) → ∃ v' l', Ending.returned (.slice (some ⟨g, off, none⟩) (l.length + 1) c1) = .returned v' ∧ OwnU wr B v' l' ∧ RisS l' ∧ (∀ y, y ∈ l' ↔ y = u ∨ y ∈ l) ∧ l'.length = l.length + 1 ∧ ∀ w0 : World, w0.heap.size ≤ B → w0.grownBy w none → w0.grownBy wr none) := fun ht =>
      ⟨_, insL l k u, rfl, by unfold OwnU; rw [insL_len]; exact hs.out, insL_ris HRS.out hd.out ht, insL_mem l k u, insL_len l k u, hg.out⟩
    rcases k with _ | k
    · go_wp2
      go_ret
      exact HEND.out (by simp)
    · have hlt : k < l.length := by omega
      obtain ⟨⟨c0, f0, ⟨z1, d1⟩, f1⟩, hst⟩ := InsS.two hs.out hlt
      by_cases hgt : u.toNat < l[k].toNat
      · have HST := Lib.hid hst
        have HDD : Hid (∀ y ∈ l.drop k, u.toNat < y.toNat) := by
          show ∀ y ∈ l.drop k, u.toNat < y.toNat
          rw [List.drop_eq_getElem_cons hlt]
          intro y hy
          rcases List.mem_cons.1 hy with rfl | hy
          · exact hgt
          · exact hd.out y hy
        clear hst hs hd HEND
        generalize l[k] = y at *
        go_wp2
        go_roundw
        case rel => exact ⟨k, by omega, rfl, HST, HDD, Lib.hid (fun w0 h0 h1 => gr_set_new (gr_set_new (hg.out w0 h0 h1) _ _ (Nat.le_trans h0 hBg)) _ _ (Nat.le_trans h0 hBg))⟩
        case measure => simp [intOf]
      · have hne : l[k].toNat ≠ u.toNat := fun e => HNU.out (by rw [← UInt32.toNat_inj.1 e]; exact List.getElem_mem hlt)
        have HT := Lib.hid (ris_take HRS.out hlt (u := u) (by omega))
        clear hst hs hd hne
        generalize l[k] = y at *
        go_wp2
        go_ret
        exact HEND.out HT.out
end Go.Proofs.Ytbdieifggciopaa
