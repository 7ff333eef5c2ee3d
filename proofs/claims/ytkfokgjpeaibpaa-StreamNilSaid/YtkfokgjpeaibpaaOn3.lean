/-
  disk.On.
-/
import Derived.Test.YtkfokgjpeaibpaaOn3a
namespace Go.Proofs.Ytkfokgjpeaibpaa
open Go.RowKit Go.Maps
set_option maxRecDepth 100000
set_option maxHeartbeats 400000
section
variable {w : World} {B d : Nat} {o : Own1} {S : Dk} {c : Con}
end
end Go.Proofs.Ytkfokgjpeaibpaa
