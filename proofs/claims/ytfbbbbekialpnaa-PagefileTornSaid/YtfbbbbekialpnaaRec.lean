/-
  Records of a journal: in memory, and as a sector's bytes.
-/
import Derived.Test.YtfbbbbekialpnaaCrc
import Derived.Test.YtfbbbbekialpnaaRef
namespace Go.Proofs.Ytfbbbbekialpnaa
open Go.RowKit
set_option maxRecDepth 100000
set_option maxHeartbeats 400000

structure Rc where
  k : UInt32
  a : UInt32
  b : UInt32
def Rc.cells (r : Rc) : Array Value := #[.int .u32 r.k.toNat, .int .u32 r.a.toNat, .int .u32 r.b.toNat]
def rcL (l : List Rc) : List Value := l.flatMap fun r => r.cells.toList
def OwnR (w : World) (B : Nat) (v : Value) (l : List Rc) : Prop := Own w B 3 v l.length (rcL l)
def RdR (w : World) (v : Value) (l : List Rc) : Prop := Rd w 3 v l.length (rcL l)
theorem rcL_len (l : List Rc) : (rcL l).length = l.length * 3 := by
  induction l with
  | nil => rfl
  | cons r l ih =>
    have e : rcL (r :: l) = r.cells.toList ++ rcL l := rfl
    rw [e, List.length_append, ih]
    simp [Rc.cells]
    omega
theorem rcL_append (l m : List Rc) : rcL (l ++ m) = rcL l ++ rcL m := by simp [rcL]
theorem rcL_at (l : List Rc) {k j : Nat} (hk : k < l.length) (hj : j < 3) : (rcL l)[k * 3 + j]? = (l[k].cells)[j]? := by
  induction l generalizing k with
  | nil => simp at hk
  | cons r l ih =>
    have e : rcL (r :: l) = r.cells.toList ++ rcL l := rfl
    have hl : r.cells.toList.length = 3 := rfl
    cases k with
    | zero =>
      rw [e, List.getElem?_append_left (by omega)]
      simp
    | succ k =>
      rw [e, List.getElem?_append_right (by omega), hl, show (k + 1) * 3 + j - 3 = k * 3 + j from by omega]
      exact ih (by simpa using hk)
theorem rc_one (l : List Rc) : ∀ u ∈ rcL l, u.oneCell' = true := by
  intro u hu
  obtain ⟨r, _, h⟩ := List.mem_flatMap.1 hu
  simp [Rc.cells] at h
  rcases h with rfl | rfl | rfl <;> rfl
section
variable {w w' : World} {B : Nat} {v : Value} {l : List Rc}
theorem OwnR.rd (h : OwnR w B v l) : RdR w v l := Own.rd h
theorem OwnR.nil (w : World) (B : Nat) : OwnR w B (.slice none 0 0) [] := Own.nil _ _ _
theorem RdR.ext (h : RdR w v l) (hg : w.grownBy w' none) : RdR w' v l := Rd.ext h hg
theorem OwnR.ext (h : OwnR w B v l) (hg : w.grownBy w' none) : OwnR w' B v l := Own.ext h hg
theorem RdR.form (h : RdR w v l) : ∃ A c, v = .slice A l.length c := by obtain ⟨_, A, c, _, _, e, _⟩ := h; exact ⟨A, c, e⟩
theorem RdR.at_ {A : Option Addr} {c : Nat} (h : RdR w (.slice A l.length c) l) : ∃ g off, (0 < l.length → A = some ⟨g, off, none⟩) ∧ l.length ≤ c ∧ c ≤ maxLen ∧ ∀ k (hk : k < l.length), ∀ j, j < 3 → w.cell? ⟨g, off + k * 3 + j, none⟩ = (l[k].cells)[j]? := by
  obtain ⟨_, _, _, g, off, e, hn, hc, _, hA, hx⟩ := h
  cases e
  refine ⟨g, off, fun h0 => hA (by omega), hn, hc, fun k hk j hj => ?_⟩
  rw [Nat.add_assoc, hx _ (by omega), rcL_at l hk hj]
end
theorem ownR_app {w : World} {B : Nat} {v : Value} {l m : List Rc} (h : Own w B 3 v (l.length + m.length) (rcL l ++ rcL m)) : OwnR w B v (l ++ m) := by
  unfold OwnR; rw [List.length_append, rcL_append]; exact h
theorem Try.infoR : (Try.prog.info? 58).map (fun i => (i.zero, i.size, i.bytes)) = some (some (.agg #[.int .u32 0, .int .u32 0, .int .u32 0]), 3, 12) := by kernel_rfl
/-- append(v, x...) of records. -/
theorem wp_appR {ops : Array Oper} {rest : List Oper} {o : Oper} {a : Act} {Q : Exit → Act → World → Prop} {w : World} (hgd : o.guard = none) (s0 x0 : Operand)
    (ho : o.op = .call { callee := .builtin .append, args := #[s0, x0], argTypes := #[49, 49] }) {B : Nat} {v x : Value} {l m : List Rc} (hs : a.eval s0 = v) (hown : OwnR w B v l)
    (hx : a.eval x0 = x) (hr : RdR w x m) (hn : l.length + m.length ≤ 1000000000) (hB : B ≤ w.heap.size)
    (h : ∀ v' w', OwnR w' B v' (l ++ m) → w.grownBy w' v.ownBlock → (v'.ownBlock = v.ownBlock ∨ ∃ k, v'.ownBlock = some k ∧ w.heap.size ≤ k) → wpList Try.prog ops Q rest (a.put o.dst v') w') :
    wpList Try.prog ops Q (o :: rest) a w :=
  wp_app w hgd s0 x0 _ ho B 58 _ 3 12 Try.underlying49 Try.infoR rfl (by omega) v _ _ hs hown x _ _ hx hr (rc_one m) (by unfold maxLen; omega) (by omega) hB
    fun v' w' h1 h2 h3 => h v' w' (ownR_app h1) h2 h3
/-- append(v, x), x one record that was laid just ahead. -/
theorem wp_app1R {ops : Array Oper} {rest : List Oper} {o : Oper} {a : Act} {Q : Exit → Act → World → Prop} {w : World} (r : Rc) (C : Array Value) (hC : C = r.cells) (hgd : o.guard = none) (s0 x0 : Operand)
    (ho : o.op = .call { callee := .builtin .append, args := #[s0, x0], argTypes := #[49, 49] }) {B : Nat} {v : Value} {l : List Rc} (hs : a.eval s0 = v) (hown : OwnR w B v l)
    (g : Nat) (hx : a.eval x0 = .slice (some ⟨g, 0, none⟩) 1 1) (hg : g = w.heap.size) (hn : l.length ≤ 1000000000) (hB : B ≤ w.heap.size)
    (h : ∀ v' w', OwnR w' B v' (l ++ [r]) → w.grownBy w' v.ownBlock → (v'.ownBlock = v.ownBlock ∨ ∃ k, v'.ownBlock = some k ∧ w.heap.size ≤ k) → wpList Try.prog ops Q rest (a.put o.dst v') w') :
    wpList Try.prog ops Q (o :: rest) a (w.alloc (.cells C 58)) := by
  subst hC hg
  have he : rcL [r] = r.cells.toList := by simp [rcL]
  exact wp_app1 w r.cells hgd s0 x0 _ ho B 58 _ 3 12 Try.underlying49 Try.infoR rfl (by omega) v _ _ hs hown hx rfl (by rw [← he]; exact rc_one [r]) (by unfold maxLen; omega) (by omega) hB
    fun v' w' h1 h2 h3 => h v' w' (ownR_app (m := [r]) (by rw [he]; exact h1)) h2 h3

/-! as bytes -/
def secH (n : Nat) (r : Rc) : List UInt8 := le n 4 ++ le r.k.toNat 4 ++ le r.a.toNat 4 ++ le r.b.toNat 4 ++ List.replicate 44 0
def secB (n : Nat) (r : Rc) : List UInt8 := secH n r ++ le (crcS (secH n r)) 4
theorem secH_len (n : Nat) (r : Rc) : (secH n r).length = 60 := by simp [secH, length_le]
theorem secB_len (n : Nat) (r : Rc) : (secB n r).length = 64 := by simp [secB, secH_len, length_le]
def recOf (s : List UInt8) : Rc := ⟨UInt32.ofNat (rdN ((s.drop 4).take 4)), UInt32.ofNat (rdN ((s.drop 8).take 4)), UInt32.ofNat (rdN ((s.drop 12).take 4))⟩
/-- the records with which bytes begin, n of them read. -/
def readF : Nat → Nat → List UInt8 → List Rc
  | 0, _, _ => []
  | f + 1, n, b => if 64 ≤ b.length ∧ n < 65536 then (if (recOf (b.take 64)).k = 0 ∨ b.take 64 ≠ secB (n + 1) (recOf (b.take 64)) then [] else recOf (b.take 64) :: readF f (n + 1) (b.drop 64)) else []
def readJ (b : List UInt8) : List Rc := readF (b.length + 1) 0 b
end Go.Proofs.Ytfbbbbekialpnaa
