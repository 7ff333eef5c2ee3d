/-
  No cell of these rows narrows 'for every input' (looked for: loops, veiled, ifaces, maps, wideKeys, modest, calm, conditions, laid).
  DERIVED. THE GIVEN ROWS OF THIS SEAT. 5 by the template 'for every input the law returns true; each argument reads behind the call as it read before'; 0 by the template 'total and deterministic' (their statements: YtkfokgjpeaibpaaTotals.lean).
  GIVEN WITH THE SEED: the statements are not yours to turn. If you find one false, say at which input.
  Laid BY PROGRAM, IN A SANDBOX (cutbox-rows.mjs): the forced cells as the released guide's own fill.sh prints them over the translation 8c911337e7cebcaf… (all of the seat's roots in one cut). By AI agents, Wed Nov 11 2026. No macro, syntax, notation, axiom, sorry.
-/
import Derived.Test.YtkfokgjpeaibpaaChecked
import GoSem.Claim
import GoSem.ClaimJoined
import GoSem.ClaimMapViews
import Derived.JoinedTies
import Derived.KernelRfl
namespace Go.Proofs.Ytkfokgjpeaibpaa
/- THE CELL 'sum', in the pinned program and in every row, IS THE sha256 OF THE DUMP (.gsa) THAT YtkfokgjpeaibpaaProg.lean LOADS. Nothing in Lean hashes anything: it is a label: what it is worth is what the hold of that sum in a sandbox is worth. -/
noncomputable def Try.pinned : Pinned := { name := "ytkfokgjpeaibpaa", sum := "8c911337e7cebcaf854babc4bfa1bc95e03e1cf4732f155513cccd191436ad19", checked := Try.checked }
namespace Rows
def none {H : Type} : Left H := { results := [], args := [] }

/-- 'milepostlaw11.StreamShape': WHATEVER THE INPUT: true; the input reads as it did. -/
def streamShapeSpec : ChangeSpec := { name := "streamShape", fn := fun _ => fun
  | [d1, d2, d3] => { results := [.lit (.bool true)], args := [d1, d2, d3] }
  | _ => none }
def streamShapeRow : OpenClaim := { program := "ytkfokgjpeaibpaa", sum := "8c911337e7cebcaf854babc4bfa1bc95e03e1cf4732f155513cccd191436ad19", func := "milepost/milepostlaw11.StreamShape", spec := "streamShape", unfollowed := true, recurses := true, plainKeys := false, apart := false }
def StreamShapeSaid : Prop := streamShapeRow.holds Try.pinned (OpenSpec.ofChange streamShapeSpec)

/-- ITS FALSE NEIGHBOUR: 'it returns false'. Refute it at one input. -/
def streamShapeWrong : ChangeSpec := { name := "streamShape", fn := fun _ => fun
  | [d1, d2, d3] => { results := [.lit (.bool false)], args := [d1, d2, d3] }
  | _ => none }
def StreamShapeWrongFalsely : Prop := streamShapeRow.holds Try.pinned (OpenSpec.ofChange streamShapeWrong)

/-- 'milepostlaw11.StreamNil': WHATEVER THE INPUT: true; the input reads as it did. -/
def streamNilSpec : ChangeSpec := { name := "streamNil", fn := fun _ => fun
  | [d1, d2, d3] => { results := [.lit (.bool true)], args := [d1, d2, d3] }
  | _ => none }
def streamNilRow : OpenClaim := { program := "ytkfokgjpeaibpaa", sum := "8c911337e7cebcaf854babc4bfa1bc95e03e1cf4732f155513cccd191436ad19", func := "milepost/milepostlaw11.StreamNil", spec := "streamNil", unfollowed := true, recurses := true, plainKeys := false, apart := false }
def StreamNilSaid : Prop := streamNilRow.holds Try.pinned (OpenSpec.ofChange streamNilSpec)

/-- ITS FALSE NEIGHBOUR: 'it returns false'. Refute it at one input. -/
def streamNilWrong : ChangeSpec := { name := "streamNil", fn := fun _ => fun
  | [d1, d2, d3] => { results := [.lit (.bool false)], args := [d1, d2, d3] }
  | _ => none }
def StreamNilWrongFalsely : Prop := streamNilRow.holds Try.pinned (OpenSpec.ofChange streamNilWrong)

/-- 'milepostlaw11.StreamLeaves': WHATEVER THE INPUT: true; the input reads as it did. -/
def streamLeavesSpec : ChangeSpec := { name := "streamLeaves", fn := fun _ => fun
  | [d1, d2, d3, d4] => { results := [.lit (.bool true)], args := [d1, d2, d3, d4] }
  | _ => none }
def streamLeavesRow : OpenClaim := { program := "ytkfokgjpeaibpaa", sum := "8c911337e7cebcaf854babc4bfa1bc95e03e1cf4732f155513cccd191436ad19", func := "milepost/milepostlaw11.StreamLeaves", spec := "streamLeaves", unfollowed := true, recurses := true, plainKeys := false, apart := false }
def StreamLeavesSaid : Prop := streamLeavesRow.holds Try.pinned (OpenSpec.ofChange streamLeavesSpec)

/-- ITS FALSE NEIGHBOUR: 'it returns false'. Refute it at one input. -/
def streamLeavesWrong : ChangeSpec := { name := "streamLeaves", fn := fun _ => fun
  | [d1, d2, d3, d4] => { results := [.lit (.bool false)], args := [d1, d2, d3, d4] }
  | _ => none }
def StreamLeavesWrongFalsely : Prop := streamLeavesRow.holds Try.pinned (OpenSpec.ofChange streamLeavesWrong)

/-- 'milepostlaw10.PoolPins': WHATEVER THE INPUT: true; the input reads as it did. -/
def poolPinsSpec : ChangeSpec := { name := "poolPins", fn := fun _ => fun
  | [d1, d2] => { results := [.lit (.bool true)], args := [d1, d2] }
  | _ => none }
def poolPinsRow : OpenClaim := { program := "ytkfokgjpeaibpaa", sum := "8c911337e7cebcaf854babc4bfa1bc95e03e1cf4732f155513cccd191436ad19", func := "milepost/milepostlaw10.PoolPins", spec := "poolPins", unfollowed := true, recurses := true, plainKeys := false, apart := false }
def PoolPinsSaid : Prop := poolPinsRow.holds Try.pinned (OpenSpec.ofChange poolPinsSpec)

/-- ITS FALSE NEIGHBOUR: 'it returns false'. Refute it at one input. -/
def poolPinsWrong : ChangeSpec := { name := "poolPins", fn := fun _ => fun
  | [d1, d2] => { results := [.lit (.bool false)], args := [d1, d2] }
  | _ => none }
def PoolPinsWrongFalsely : Prop := poolPinsRow.holds Try.pinned (OpenSpec.ofChange poolPinsWrong)

/-- 'milepostlaw11.StreamBack': WHATEVER THE INPUT: true; the input reads as it did. -/
def streamBackSpec : ChangeSpec := { name := "streamBack", fn := fun _ => fun
  | [d1, d2, d3] => { results := [.lit (.bool true)], args := [d1, d2, d3] }
  | _ => none }
def streamBackRow : OpenClaim := { program := "ytkfokgjpeaibpaa", sum := "8c911337e7cebcaf854babc4bfa1bc95e03e1cf4732f155513cccd191436ad19", func := "milepost/milepostlaw11.StreamBack", spec := "streamBack", unfollowed := true, recurses := true, plainKeys := false, apart := false }
def StreamBackSaid : Prop := streamBackRow.holds Try.pinned (OpenSpec.ofChange streamBackSpec)

/-- ITS FALSE NEIGHBOUR: 'it returns false'. Refute it at one input. -/
def streamBackWrong : ChangeSpec := { name := "streamBack", fn := fun _ => fun
  | [d1, d2, d3] => { results := [.lit (.bool false)], args := [d1, d2, d3] }
  | _ => none }
def StreamBackWrongFalsely : Prop := streamBackRow.holds Try.pinned (OpenSpec.ofChange streamBackWrong)

/- THE SECOND FORM. 'bulk': how many values and letters a reading holds, each counted each time it is reached (what is shared counts as often as it is met; a slice's spare places count too). A statement '..UptoSaid' is the law's where the arguments, and the package variables that the reading takes, are together of bulk at most 1048576: NARROWER than '..Said'. Prove '..Said' where nothing that the law and all that it calls make is longer than what came in: it says more and counts as full. Else prove '..UptoSaid'. A law counts once. -/
mutual
def uptoBulk {H : Type} : DataW H → Nat
  | .lit (.string bytes) => bytes.length + 1
  | .lit _ => 1
  | .nil => 1
  | .ptr d => uptoBulk d + 1
  | .slice elems spare => uptoBulkAll elems + uptoBulkAll spare + 1
  | .agg parts => uptoBulkAll parts + 1
  | .iface _ d => uptoBulk d + 1
  | .map entries => uptoBulkEntries entries + 1
  | .held _ => 1
def uptoBulkAll {H : Type} : List (DataW H) → Nat
  | [] => 0
  | d :: r => uptoBulk d + uptoBulkAll r
def uptoBulkEntries {H : Type} : List (Lit × DataW H) → Nat
  | [] => 0
  | x :: r => uptoBulkEntry x + uptoBulkEntries r
def uptoBulkEntry {H : Type} : Lit × DataW H → Nat
  | (.string bytes, d) => bytes.length + uptoBulk d + 1
  | (_, d) => uptoBulk d + 1
 end
def uptoSmall : (H : Type) → List (DataW H) → Bool := fun _ ds => decide (uptoBulkAll ds ≤ 1048576)
def OpenSpec.upto (s : _root_.Go.ChangeSpec) : _root_.Go.OpenSpec := { _root_.Go.OpenSpec.ofChange s with cond := some uptoSmall }

/-- 'milepostlaw11.StreamShape', WHERE WHAT IT READS IS OF BULK AT MOST 1048576: true; the input reads as it did. -/
def streamShapeUptoRow : OpenClaim := { program := "ytkfokgjpeaibpaa", sum := "8c911337e7cebcaf854babc4bfa1bc95e03e1cf4732f155513cccd191436ad19", func := "milepost/milepostlaw11.StreamShape", spec := "streamShape", unfollowed := true, recurses := true, plainKeys := false, apart := false, narrowed := true }
def StreamShapeUptoSaid : Prop := streamShapeUptoRow.holds Try.pinned (OpenSpec.upto streamShapeSpec)

/-- 'milepostlaw11.StreamNil', WHERE WHAT IT READS IS OF BULK AT MOST 1048576: true; the input reads as it did. -/
def streamNilUptoRow : OpenClaim := { program := "ytkfokgjpeaibpaa", sum := "8c911337e7cebcaf854babc4bfa1bc95e03e1cf4732f155513cccd191436ad19", func := "milepost/milepostlaw11.StreamNil", spec := "streamNil", unfollowed := true, recurses := true, plainKeys := false, apart := false, narrowed := true }
def StreamNilUptoSaid : Prop := streamNilUptoRow.holds Try.pinned (OpenSpec.upto streamNilSpec)

/-- 'milepostlaw11.StreamLeaves', WHERE WHAT IT READS IS OF BULK AT MOST 1048576: true; the input reads as it did. -/
def streamLeavesUptoRow : OpenClaim := { program := "ytkfokgjpeaibpaa", sum := "8c911337e7cebcaf854babc4bfa1bc95e03e1cf4732f155513cccd191436ad19", func := "milepost/milepostlaw11.StreamLeaves", spec := "streamLeaves", unfollowed := true, recurses := true, plainKeys := false, apart := false, narrowed := true }
def StreamLeavesUptoSaid : Prop := streamLeavesUptoRow.holds Try.pinned (OpenSpec.upto streamLeavesSpec)

/-- 'milepostlaw10.PoolPins', WHERE WHAT IT READS IS OF BULK AT MOST 1048576: true; the input reads as it did. -/
def poolPinsUptoRow : OpenClaim := { program := "ytkfokgjpeaibpaa", sum := "8c911337e7cebcaf854babc4bfa1bc95e03e1cf4732f155513cccd191436ad19", func := "milepost/milepostlaw10.PoolPins", spec := "poolPins", unfollowed := true, recurses := true, plainKeys := false, apart := false, narrowed := true }
def PoolPinsUptoSaid : Prop := poolPinsUptoRow.holds Try.pinned (OpenSpec.upto poolPinsSpec)

/-- 'milepostlaw11.StreamBack', WHERE WHAT IT READS IS OF BULK AT MOST 1048576: true; the input reads as it did. -/
def streamBackUptoRow : OpenClaim := { program := "ytkfokgjpeaibpaa", sum := "8c911337e7cebcaf854babc4bfa1bc95e03e1cf4732f155513cccd191436ad19", func := "milepost/milepostlaw11.StreamBack", spec := "streamBack", unfollowed := true, recurses := true, plainKeys := false, apart := false, narrowed := true }
def StreamBackUptoSaid : Prop := streamBackUptoRow.holds Try.pinned (OpenSpec.upto streamBackSpec)

end Rows
end Go.Proofs.Ytkfokgjpeaibpaa
