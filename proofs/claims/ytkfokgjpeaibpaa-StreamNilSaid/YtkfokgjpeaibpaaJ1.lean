/-
  journal: field, sector, and slices.Equal of bytes.
-/
import Derived.Test.YtkfokgjpeaibpaaRec
namespace Go.Proofs.Ytkfokgjpeaibpaa
open Go.RowKit
set_option maxRecDepth 100000
set_option maxHeartbeats 400000

theorem rd4_lt (l : List UInt8) (i : Nat) : rdN ((l.drop i).take 4) < 4294967296 := rdN_take_lt (l.drop i) 4
def fieldsB (m : List UInt32) : List UInt8 := m.flatMap fun x => le x.toNat 4
theorem fieldsB_len (m : List UInt32) : (fieldsB m).length = 4 * m.length := by
  induction m with
  | nil => rfl
  | cons x m ih =>
    have e : fieldsB (x :: m) = le x.toNat 4 ++ fieldsB m := rfl
    rw [e, List.length_append, ih, length_le, List.length_cons]
    omega
theorem fieldsB_snoc {m : List UInt32} {k : Nat} (hk : k < m.length) : fieldsB (m.take (k + 1)) = fieldsB (m.take k) ++ le m[k].toNat 4 := by
  unfold fieldsB
  rw [List.take_succ_eq_append_getElem hk, List.flatMap_append]
  congr 1
/-- append of noughts, at the operation. -/
theorem wp_appZ {ops : Array Oper} {rest : List Oper} {q : Oper} {a : Act} {Q : Exit → Act → World → Prop} {w : World} (hgd : q.guard = none) (s0 x0 : Operand)
    (ho : q.op = .call { callee := .builtin .append, args := #[s0, x0], argTypes := #[27, 3] }) {B : Nat} {v : Value} {l : List UInt8} (hs : a.eval s0 = v) (hown : OwnB w B v l) {M : Int} (m : Nat) (hM : M = (m : Int)) (hx : a.eval x0 = .int .i64 M)
    (hn : l.length + m ≤ 70000000000000) (hB : B ≤ w.heap.size)
    (h : ∀ v' w', OwnB w' B v' (l ++ List.replicate m 0) → Ext0 w w' v v' → wpList Try.prog ops Q rest (a.put q.dst v') w') : wpList Try.prog ops Q (q :: rest) a w := by
  refine wpList_plain hgd fun K hK => ?_
  subst hM
  obtain ⟨v', w', hrun, h1, h2⟩ := run_appZ w q.type B v l hown m hn hB
  unfold Oper.wp execOp
  simp only [ho, resolve, invoke, builtin, Sem.run_bind, Sem.run_pure, Result.andThen_ok, List.map_toArray, List.map_cons, List.map_nil, hs, hx, hrun]
  exact hK _ _ (h v' w' h1 h2)
theorem ext0_gr {W w w' : World} {v u : Value} {B : Nat} {l : List UInt8} (hg : W.grownBy w none) (h : Ext0 w w' v u) (ho : OwnB w B v l) (hB : W.heap.size ≤ B) : W.grownBy w' none := by
  obtain ⟨r, g, hr, _⟩ := h
  exact gr_trans hg g (.inr fun k e => Nat.le_trans hB (Own.blk_lt ho (by omega) (hr k e)).1)
end Go.Proofs.Ytkfokgjpeaibpaa
