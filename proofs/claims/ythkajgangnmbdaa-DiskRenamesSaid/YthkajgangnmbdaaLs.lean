/-
  disk.Loose: the order of sectors in the program, and the range over the loose ones.
-/
import Derived.Test.YthkajgangnmbdaaSec
import Derived.Test.YthkajgangnmbdaaDi
import Derived.Sort.Grow
namespace Go.Proofs.Ythkajgangnmbdaa
open Go.RowKit Go.Maps Go.Sort
set_option maxRecDepth 100000
set_option maxHeartbeats 400000

theorem strB_eq (x y : List UInt8) : ((⟨x.toArray⟩ : ByteArray).toList == (⟨y.toArray⟩ : ByteArray).toList) = (x == y) := by simp
/-- the order, as the program has it. -/
theorem secCmp_any (x y : Sec) (W : World) : Calls Try.prog 30 #[.agg x.enc.toArray, .agg y.enc.toArray] W fun e w' => e = .returned (.int .i64 (secC x y)) ∧ ∃ q os', w' = grow (W.drewN q) os' := by
  obtain ⟨a, p⟩ := x
  obtain ⟨b, q⟩ := y
  have hp := p.toNat_lt
  have hq := q.toNat_lt
  unfold Sec.enc secC
  by_cases h1 : bl a b = true
  · rw [if_pos h1]
    have h1' : Op.bytesLess a b = true := h1
    clear h1
    go_enter Try.func30, Try.ntmps30
    go_wp2
    go_ret
    exact ⟨rfl, 0, _, by rw [alloc_eq_grow, alloc_eq_grow, grow_grow]; rfl⟩
  · have h1' : Op.bytesLess a b = false := by simpa using h1
    rw [if_neg h1]
    by_cases h2 : bl b a = true
    · rw [if_pos h2]
      have hne : (a == b) = false := by
        rw [beq_eq_false_iff_ne]
        intro e
        rw [e, bl_irrefl] at h2; cases h2
      clear h1 h2
      go_enter Try.func30, Try.ntmps30
      go_wp2
      go_ret
      exact ⟨rfl, 0, _, by rw [alloc_eq_grow, alloc_eq_grow, grow_grow]; rfl⟩
    · rw [if_neg h2]
      have e := bl_tri _ _ h1' (by simpa using h2)
      subst e
      have hne : (a == a) = true := by simp
      have hp1 : (p.toNat : Int) < 4294967296 := by omega
      have hq1 : (q.toNat : Int) < 4294967296 := by omega
      clear h1 h2
      go_enter Try.func30, Try.ntmps30
      go_wp2
      go_ret
      exact ⟨rfl, 0, _, by rw [alloc_eq_grow, alloc_eq_grow, grow_grow]; rfl⟩
section
variable {w w' : World} {m n r cnt : Nat} {L left : List UInt8 → Int → Bool}
/-- range m, with how many there are at most. -/
theorem wp_lm_range2 {ops : Array Oper} {rest : List Oper} {o : Oper} {a : Act} {Q : Exit → Act → World → Prop} (hg : o.guard = none) (mm : Operand) (hop : o.op = .range 44 mm)
    (h : LM w m n L) (hm : a.eval mm = .map (some m))
    (hK : ∀ w' cnt, cnt ≤ n → LR w' m w.heap.size n L L cnt → w.grownBy w' none → w'.heap.size = w.heap.size + 1 → wpList Try.prog ops Q rest (a.put o.dst (.pointer (some ⟨w.heap.size, 0, none⟩))) w') :
    wpList Try.prog ops Q (o :: rest) a w := by
  obtain ⟨D, h, h0⟩ := h
  exact wpList_range_own w hg mm _ hop 55 4 Try.keyedK Try.underlying44 _ m n D hm h fun w' r1 r2 r3 => hK w' _ h.size_le ⟨D, _, r1, h0, h0⟩ r2 r3
end
def OwnP (w : World) (B : Nat) (v : Value) (l : List Sec) : Prop := Go.Proofs.Ythkajgangnmbdaa.Own w B 2 v l.length (l.flatMap Sec.enc)
theorem Try.infoPl : (Try.prog.info? 64).map (fun i => (i.zero, i.size, i.bytes)) = some (some (.agg #[.string ⟨#[]⟩, .int .i64 0]), 2, 24) := by kernel_rfl
/-- append(v, x) of a sector. -/
theorem wp_app1P {ops : Array Oper} {rest : List Oper} {o : Oper} {a : Act} {Q : Exit → Act → World → Prop} {w : World} (x : Sec) (hgd : o.guard = none) (s0 x0 : Operand)
    (ho : o.op = .call { callee := .builtin .append, args := #[s0, x0], argTypes := #[61, 61] }) {B : Nat} {v : Value} {l : List Sec} (hs : a.eval s0 = v) (hown : OwnP w B v l)
    (hx : a.eval x0 = .slice (some ⟨w.heap.size, 0, none⟩) 1 1) (hn : l.length ≤ 1000000000) (hB : B ≤ w.heap.size)
    (h : ∀ v' w', OwnP w' B v' (l ++ [x]) → w.grownBy w' v.ownBlock → (v'.ownBlock = v.ownBlock ∨ ∃ k, v'.ownBlock = some k ∧ w.heap.size ≤ k) → wpList Try.prog ops Q rest (a.put o.dst v') w') :
    wpList Try.prog ops Q (o :: rest) a (w.alloc (.cells x.enc.toArray 64)) := by
  refine wp_app1 w x.enc.toArray hgd s0 x0 _ ho B 64 _ 2 24 Try.underlying61 Try.infoPl rfl (by omega) v _ _ hs hown hx rfl (by intro u hu; simp [Sec.enc] at hu; rcases hu with rfl | rfl <;> rfl) (by unfold maxLen; omega) (by omega) hB
    fun v' w' h1 h2 h3 => h v' w' ?_ h2 h3
  unfold OwnP
  rw [List.length_append, List.flatMap_append]
  simpa using h1
end Go.Proofs.Ythkajgangnmbdaa
