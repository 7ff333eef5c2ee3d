/-
  Pick: a list of candidates that a call makes.
-/
import Derived.Test.YtbdieifggciopaaKx
namespace Go.Proofs.Ytbdieifggciopaa
open Go.RowKit
set_option maxRecDepth 100000
set_option maxHeartbeats 400000

theorem Rd.lies {w : World} {s n : Nat} {v : Value} {xs : List Value} (h : Rd w s v n xs) (h0 : 0 < n) (hs : 0 < s) : Lies w v := by
  obtain ⟨hl, A, c, g, off, rfl, hn, hc, _, hA, hx⟩ := h
  intro k hk
  obtain rfl := hA (by omega)
  cases hk
  have hcs : 0 < n * s := Nat.mul_pos h0 hs
  have := hx 0 hcs
  rw [List.getElem?_eq_getElem (by omega)] at this
  exact World.block_lt_of_cell? w _ this
theorem RdU.empty {w w' : World} {v : Value} (h : RdU w v []) : RdU w' v [] := by
  obtain ⟨hl, A, c, g, off, e, hn, hc, hA0, hA, _⟩ := h
  exact ⟨hl, A, c, g, off, e, hn, hc, hA0, hA, fun j hj => by simp at hj⟩
/-- a candidate whose list is not the row's own memory. -/
def Safe (w : World) (v : Value) (x : Cd) : Prop := RdU w x.s x.d.near ∧ (x.d.near = [] ∨ (Lies w x.s ∧ ∀ q, v.ownBlock = some q → x.s.ownBlock ≠ some q))
def OwnR (w : World) (B : Nat) (v : Value) (l : List Cd) : Prop := OwnC0 w B v l ∧ Lies w v ∧ ∀ x ∈ l, Safe w v x
theorem OwnR.rd {w : World} {B : Nat} {v : Value} {l : List Cd} (h : OwnR w B v l) : RdC w v l := ⟨OwnG.rd h.1, fun x hx => (h.2.2 x hx).1⟩
theorem OwnR.nil (w : World) (B : Nat) : OwnR w B (.slice none 0 0) [] := ⟨OwnG.nil _ _ _ _, fun q e => (by cases e), fun x hx => (by cases hx)⟩
theorem Safe.ext {w w' : World} {v : Value} {x : Cd} (h : Safe w v x) (hg : w.grownBy w' none) : Safe w' v x := ⟨Rd.ext h.1 hg, h.2.imp id fun h => ⟨h.1.mono hg.size, h.2⟩⟩
theorem OwnR.ext {w w' : World} {B : Nat} {v : Value} {l : List Cd} (h : OwnR w B v l) (hg : w.grownBy w' none) : OwnR w' B v l := ⟨OwnG.ext h.1 hg, h.2.1.mono hg.size, fun x hx => (h.2.2 x hx).ext hg⟩
theorem OwnC.own {w : World} {B : Nat} {v : Value} {l : List Cd} (h : OwnC w B v l) : OwnR w B v l := ⟨h.1, h.2.1, fun x hx => ⟨Own.rd (h.2.2 x hx).1, .inr ⟨(h.2.2 x hx).2.1, (h.2.2 x hx).2.2⟩⟩⟩
theorem Safe.app {w w' : World} {v v' : Value} {x : Cd} (h : Safe w v x) (hg : w.grownBy w' v.ownBlock) (hn : v'.ownBlock = v.ownBlock ∨ ∃ k, v'.ownBlock = some k ∧ w.heap.size ≤ k) : Safe w' v' x := by
  rcases h.2 with h2 | ⟨h2, h3⟩
  · obtain ⟨d, s⟩ := x
    obtain ⟨dv, dk, dn⟩ := d
    simp only at h2
    subst h2
    exact ⟨RdU.empty h.1, .inl rfl⟩
  · refine ⟨Rd.gr h.1 hg h3, .inr ⟨h2.mono hg.size, fun q e => ?_⟩⟩
    rcases hn with e2 | ⟨k, e2, hk⟩
    · exact h3 q (by rw [← e2]; exact e)
    · rw [e2] at e
      cases e
      intro e3
      have := h2 _ e3
      omega
theorem OwnR.app {w w' : World} {B : Nat} {v v' : Value} {l : List Cd} {x : Cd} (h : OwnR w B v l) (h0 : OwnC0 w' B v' (l ++ [x])) (hg : w.grownBy w' v.ownBlock) (hn : v'.ownBlock = v.ownBlock ∨ ∃ k, v'.ownBlock = some k ∧ w.heap.size ≤ k) (hx : Safe w v x) : OwnR w' B v' (l ++ [x]) := by
  refine ⟨h0, Own.lies h0 (by simp) (by omega), fun y hy => ?_⟩
  rcases List.mem_append.1 hy with hy | hy
  · exact (h.2.2 y hy).app hg hn
  · rw [List.mem_singleton.1 hy]; exact hx.app hg hn
/-- append(v, x) of a candidate. -/
theorem wp_app1C {ops : Array Oper} {rest : List Oper} {o : Oper} {a : Act} {Q : Exit → Act → World → Prop} {w : World} (r : Cd) (C : Array Value) (hC : C.toList = r.enc) (hr : r.s.oneCell' = true) (hgd : o.guard = none) (s0 x0 : Operand)
    (ho : o.op = .call { callee := .builtin .append, args := #[s0, x0], argTypes := #[22, 22] }) {B : Nat} {v : Value} {l : List Cd} (hs : a.eval s0 = v) (hown : OwnC0 w B v l)
    (g : Nat) (hx : a.eval x0 = .slice (some ⟨g, 0, none⟩) 1 1) (hg : g = w.heap.size) (hn : l.length ≤ 1000000000) (hB : B ≤ w.heap.size)
    (h : ∀ v' w', OwnC0 w' B v' (l ++ [r]) → w.grownBy w' v.ownBlock → (v'.ownBlock = v.ownBlock ∨ ∃ k, v'.ownBlock = some k ∧ w.heap.size ≤ k) → wpList Try.prog ops Q rest (a.put o.dst v') w') :
    wpList Try.prog ops Q (o :: rest) a (w.alloc (.cells C 33)) := by
  subst hg
  have he : [r].flatMap Cd.enc = C.toList := by simp [hC]
  have hC3 : C.size = 3 := by rw [← Array.length_toList, hC]; rfl
  have h1 : ∀ u ∈ C.toList, u.oneCell' = true := by
    intro u hu
    rw [hC] at hu
    simp [Cd.enc] at hu
    rcases hu with rfl | rfl | rfl
    · rfl
    · rfl
    · exact hr
  exact wp_app1 w C hgd s0 x0 _ ho B 33 _ 3 40 Try.underlying22 Try.infoCd rfl (by omega) v _ _ hs hown hx hC3 h1 (by unfold maxLen; omega) (by omega) hB
    fun v' w' h1 h2 h3 => h v' w' (ownC_app (m := [r]) (by rw [he]; exact h1)) h2 h3
end Go.Proofs.Ytbdieifggciopaa
