/-
  What stands beside a disk, and stays.
-/
import Derived.Test.YtfbbbbekialpnaaDa
namespace Go.Proofs.Ytfbbbbekialpnaa
open Go.RowKit
set_option maxRecDepth 100000

/-- memory of the call's own that is none of the disk's. -/
structure Kp (o : Own1) (w : World) (B s : Nat) (v : Value) (n : Nat) (xs : List Value) : Prop where
  own : Go.Proofs.Ytfbbbbekialpnaa.Own w B s v n xs
  off : ∀ k, blk v = some k → o k = none
section
variable {w0 w w1 w' : World} {d B s n : Nat} {o o' : Own1} {S : Dk} {v : Value} {xs : List Value}
theorem Kp.new (h : DA w0 d o S w1) (hk : Own w w1.heap.size s v n xs) (hs : 0 < s) : Kp o w w1.heap.size s v n xs := ⟨hk, fun _ e => h.fresh (Own.blk_lt hk hs e).1⟩
theorem Kp.ext (h : Kp o w B s v n xs) (g : w.grownBy w' none) : Kp o w' B s v n xs := ⟨h.own.ext g, h.off⟩
theorem Kp.ch (h : Kp o w B s v n xs) (c : Ch o w o' w') (hs : 0 < s) : Kp o' w' B s v n xs := ⟨c.own h.own hs h.off, fun k e => c.free k (Own.blk_lt h.own hs e).2 (h.off k e)⟩
/-- what came in stays, whatever is done to disks of the call's own. -/
theorem Kp.mono (h : Kp o w B s v n xs) {B' : Nat} (hB : B' ≤ B) : Kp o w B' s v n xs := ⟨h.own.mono hB, h.off⟩
end
end Go.Proofs.Ytfbbbbekialpnaa
