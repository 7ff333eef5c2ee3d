/-
  milepostref00's longer: a list, and behind it forty bytes of one kind.
-/
import Derived.Test.YtikgobndekgjcaaDoorTxt
namespace Go.Proofs.YtikgobndekgjcaaDoor
open Go.RowKit
set_option maxRecDepth 100000
set_option maxHeartbeats 400000

/-- what append says of one byte more. -/
def App1 (w w' : World) (n m : Nat) (v v' : Value) : Prop :=
  (∃ A c, v = .slice A n c ∧ v' = .slice A (n + m) c ∧ w.grownBy w' v.ownBlock) ∨ ∃ k, v'.ownBlock = some k ∧ w.heap.size ≤ k ∧ w.grownBy w' none
theorem wp_app1S {ops : Array Oper} {rest : List Oper} {o : Oper} {a : Act} {Q : Exit → Act → World → Prop} {w : World} (u : UInt8) (N : Int) (hu : N = (u.toNat : Int)) (hgd : o.guard = none) (s0 x0 : Operand)
    (ho : o.op = .call { callee := .builtin .append, args := #[s0, x0], argTypes := #[22, 22] }) {B : Nat} {v : Value} {l : List UInt8} (hs : a.eval s0 = v) (hown : OwnB w B v l)
    (hx : a.eval x0 = .slice (some ⟨w.heap.size, 0, none⟩) 1 1) (hn : l.length ≤ 70000000000000) (hB : B ≤ w.heap.size)
    (h : ∀ v' w', OwnB w' B v' (l ++ [u]) → App1 w w' l.length 1 v v' → wpList Tryd.prog ops Q rest (a.put o.dst v') w') :
    wpList Tryd.prog ops Q (o :: rest) a (w.alloc (.cells #[.int .u8 N] 5)) := by
  subst hu
  refine wp_appS (w.alloc (.cells #[.int .u8 u.toNat] 5)) hgd s0 x0 _ ho B 5 _ 1 1 Tryd.underlying22 Tryd.info5 rfl (by omega) v _ _ hs (Own.alloc hown _) _ 1 [u8v u] hx (rd_lit w 1 1 1 #[.int .u8 u.toNat] 5 (by simp) (Nat.le_refl _) (by unfold maxLen; omega)) (by simp; rfl) (by unfold maxLen; omega) (by omega) (by simp; omega) fun v' w' h2 h3 => ?_
  refine h v' w' (own_app (m := [u]) h2) ?_
  rcases h3 with ⟨A, c, e1, e2, g⟩ | ⟨k, e, hk, g⟩
  · exact .inl ⟨A, c, e1, e2, gr_trans (gr_alloc w _ _) g (.inl rfl)⟩
  · exact .inr ⟨k, e, by simp at hk; omega, gr_none (gr_alloc w _ none) g⟩

/-- a list that is being made longer, beside the one that it was. -/
def Lg (w wr : World) (B : Nat) (A : Option Addr) (c : Nat) (l : List UInt8) (u : Value) (X : List UInt8) : Prop :=
  OwnB wr B u (l ++ X) ∧ OwnB wr B (.slice A l.length c) l ∧ (∃ r, w.grownBy wr r ∧ ∀ k, r = some k → ∃ a, A = some a ∧ 0 < c ∧ a.block = k) ∧
    (u = .slice A (l.length + X.length) c ∨ ∃ k, u.ownBlock = some k ∧ w.heap.size ≤ k)
theorem Lg.step {w wr w2 : World} {B : Nat} {A : Option Addr} {c : Nat} {l X : List UInt8} {u u' : Value} {b : UInt8} (h0 : OwnB w B (.slice A l.length c) l) (h : Lg w wr B A c l u X) (hown : OwnB w2 B u' ((l ++ X) ++ [b])) (hd : App1 wr w2 (l ++ X).length 1 u u') :
    Lg w w2 B A c l u' (X ++ [b]) := by
  obtain ⟨h1, h2, ⟨r, hg, hr⟩, h3⟩ := h
  have hsz := hg.size
  refine ⟨by rw [← List.append_assoc]; exact hown, ?_⟩
  rcases hd with ⟨A', c', e1, e2, g⟩ | ⟨k, e, hk, g⟩
  · rcases h3 with h3 | ⟨k, h3, hk⟩
    · rw [h3] at e1
      simp only [Value.slice.injEq] at e1
      obtain ⟨rfl, hn, rfl⟩ := e1
      subst e2 h3
      have hown' : Own w2 B 1 (.slice A ((l ++ X).length + 1) c) ((l ++ X).length + 1) (((l ++ X) ++ [b]).map u8v) := by
        have := hown
        unfold OwnB at this
        rw [show ((l ++ X) ++ [b]).length = (l ++ X).length + 1 from by simp; omega] at this
        exact this
      have hc : (l ++ X).length + 1 ≤ c := hown'.cap
      refine ⟨?_, ?_, .inl (by simp; omega)⟩
      · have := Own.take (k := l.length) hown' (by simp; omega)
        rw [← List.map_take, List.append_assoc, List.take_left] at this
        exact this
      · cases A with
        | none => exact ⟨r, gr_none hg g, hr⟩
        | some a =>
          refine ⟨some a.block, ?_, fun k hk => ⟨a, rfl, by omega, by cases hk; rfl⟩⟩
          rcases r with _ | k'
          · exact gr_trans (gr_of_none hg) g (.inl rfl)
          · obtain ⟨a', e, _, e'⟩ := hr k' rfl
            cases e
            subst e'
            exact gr_trans hg g (.inl rfl)
    · refine ⟨?_, ⟨r, gr_trans hg g (.inr fun g' e => by rw [h3] at e; cases e; exact hk), hr⟩, .inr ⟨k, ?_, hk⟩⟩
      · refine Own.far h2 g fun k' a e e' h0' => ?_
        rw [h3] at e
        cases e
        subst e'
        have := Own.in_ h0 (by omega) h0'
        omega
      · rw [e2]
        rw [e1] at h3
        cases A' <;> exact h3
  · refine ⟨?_, ⟨r, gr_none hg g, hr⟩, .inr ⟨k, e, by omega⟩⟩
    exact Own.ext h2 g
theorem Lg.start {w : World} {B : Nat} {A : Option Addr} {c : Nat} {l : List UInt8} (h : OwnB w B (.slice A l.length c) l) : Lg w w B A c l (.slice A l.length c) [] :=
  ⟨by simpa using h, h, ⟨none, gr_refl _ _, fun k e => by cases e⟩, .inl (by simp)⟩
def lenV : Value → Nat
  | .slice _ n _ => n
  | _ => 0

theorem lenV_of {w : World} {B : Nat} {v : Value} {l : List UInt8} (h : OwnB w B v l) : lenV v = l.length := by
  obtain ⟨A, c, e⟩ := h.rd.form
  rw [e]; rfl

set_option maxHeartbeats 2000000 in
theorem longer_any (k : UInt8) (N : Int) (hN : N = (k.toNat : Int)) (A : Option Addr) (c : Nat) (l : List UInt8) (B : Nat) (w : World) (hB : B ≤ w.heap.size) (h : OwnB w B (.slice A l.length c) l) (hn : l.length ≤ 1000000000) :
    Calls Tryd.prog 41 #[.slice A l.length c, .int .u8 N] w fun e w' => ∃ v', e = .returned v' ∧ Lg w w' B A c l v' (List.replicate 40 k) := by
  subst hN
  have H0 := Lib.hid h
  clear h
  have hL : ∃ L, L = l.length ∧ L ≤ 1000000000 := ⟨_, rfl, hn⟩
  obtain ⟨L, hL, hL2⟩ := hL
  have HL := Lib.hid hL
  go_enter Tryd.func41, Tryd.ntmps41
  go_wp2
  clear hL
  go_loopw [0] (fun u wr => ∃ j : Nat, j ≤ 40 ∧ Lg w wr B A c l u (List.replicate j k)) (fun u _ => l.length + 40 - lenV u)
  case atStart => exact ⟨0, by omega, by simpa using Lg.start H0.out⟩
  case round =>
    obtain ⟨j, hj, hlg⟩ := hrel
    have hown := hlg.1
    obtain ⟨A', c', e⟩ := hown.rd.form
    subst e
    have hsz : B ≤ wr.heap.size := by
      obtain ⟨_, _, ⟨r, hg, _⟩, _⟩ := hlg
      have := hg.size
      omega
    have hlen : (l ++ List.replicate j k).length = l.length + j := by simp
    have Hlg := Lib.hid hlg
    clear hlg
    by_cases hlt : j < 40
    · have hlb : (l ++ List.replicate j k).length ≤ 70000000000000 := by omega
      go_wp2_with (at_builtin; refine wp_app1S k _ rfl rfl (.tmp 13) (.tmp 15) rfl rfl hown rfl hlb hsz ?_; intro v1 w1 h1 a1; have hlv := lenV_of h1)
      go_roundw
      case rel => exact ⟨j + 1, by omega, by have := Hlg.out.step H0.out h1 a1; rwa [← List.replicate_succ'] at this⟩
      case measure => (simp [lenV] at hlv ⊢; omega)
    · obtain rfl : j = 40 := by omega
      go_wp2
      go_ret
      exact ⟨_, rfl, Hlg.out⟩
end Go.Proofs.YtikgobndekgjcaaDoor
