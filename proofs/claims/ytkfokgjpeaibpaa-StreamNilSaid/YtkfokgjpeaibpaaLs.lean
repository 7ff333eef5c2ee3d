/-
  disk.Loose: the order of sectors in the program, and the range over the loose ones.
-/
import Derived.Test.YtkfokgjpeaibpaaSec
import Derived.Test.YtkfokgjpeaibpaaDi
import Derived.Sort.Grow
namespace Go.Proofs.Ytkfokgjpeaibpaa
open Go.RowKit Go.Maps Go.Sort
set_option maxRecDepth 100000
set_option maxHeartbeats 400000

theorem strB_eq (x y : List UInt8) : ((⟨x.toArray⟩ : ByteArray).toList == (⟨y.toArray⟩ : ByteArray).toList) = (x == y) := by simp
section
variable {w w' : World} {m n r cnt : Nat} {L left : List UInt8 → Int → Bool}
/-- range m, with how many there are at most. -/
theorem wp_lm_range2 {ops : Array Oper} {rest : List Oper} {o : Oper} {a : Act} {Q : Exit → Act → World → Prop} (hg : o.guard = none) (mm : Operand) (hop : o.op = .range 83 mm)
    (h : LM w m n L) (hm : a.eval mm = .map (some m))
    (hK : ∀ w' cnt, cnt ≤ n → LR w' m w.heap.size n L L cnt → w.grownBy w' none → w'.heap.size = w.heap.size + 1 → wpList Try.prog ops Q rest (a.put o.dst (.pointer (some ⟨w.heap.size, 0, none⟩))) w') :
    wpList Try.prog ops Q (o :: rest) a w := by
  obtain ⟨D, h, h0⟩ := h
  exact wpList_range_own w hg mm _ hop 123 4 Try.keyedK Try.underlying83 _ m n D hm h fun w' r1 r2 r3 => hK w' _ h.size_le ⟨D, _, r1, h0, h0⟩ r2 r3
end
def OwnP (w : World) (B : Nat) (v : Value) (l : List Sec) : Prop := Go.Proofs.Ytkfokgjpeaibpaa.Own w B 2 v l.length (l.flatMap Sec.enc)
end Go.Proofs.Ytkfokgjpeaibpaa
