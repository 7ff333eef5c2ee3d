/-
  No cell of these rows narrows 'for every input' (looked for: loops, veiled, ifaces, maps, wideKeys, modest, calm, conditions, laid).
  DERIVED. THE GIVEN ROWS OF THIS SEAT. 6 by the template 'for every input the law returns true; each argument reads behind the call as it read before'; 0 by the template 'total and deterministic' (their statements: YtbdieifggciopaaTotals.lean).
  GIVEN WITH THE SEED: the statements are not yours to turn. If you find one false, say at which input.
  Laid BY PROGRAM, IN A SANDBOX (cutbox-rows.mjs): the forced cells as the released guide's own fill.sh prints them over the translation 697d9d4da0e5829d… (all of the seat's roots in one cut). By AI agents, Wed Nov 11 2026. No macro, syntax, notation, axiom, sorry.
-/
import Derived.Test.YtbdieifggciopaaChecked
import GoSem.Claim
import GoSem.ClaimJoined
import GoSem.ClaimMapViews
import Derived.JoinedTies
import Derived.KernelRfl
namespace Go.Proofs.Ytbdieifggciopaa
/- THE CELL 'sum', in the pinned program and in every row, IS THE sha256 OF THE DUMP (.gsa) THAT YtbdieifggciopaaProg.lean LOADS. Nothing in Lean hashes anything: it is a label: what it is worth is what the hold of that sum in a sandbox is worth. -/
noncomputable def Try.pinned : Pinned := { name := "ytbdieifggciopaa", sum := "697d9d4da0e5829d3f8625558c2d2a4c201c92a27eefe11cd3e618a0534f439d", checked := Try.checked }
namespace Rows
def none {H : Type} : Left H := { results := [], args := [] }

/-- 'milepostlaw16.PickPicks': WHATEVER THE INPUT: true; the input reads as it did. -/
def pickPicksSpec : ChangeSpec := { name := "pickPicks", fn := fun _ => fun
  | [d] => { results := [.lit (.bool true)], args := [d] }
  | _ => none }
def pickPicksRow : OpenClaim := { program := "ytbdieifggciopaa", sum := "697d9d4da0e5829d3f8625558c2d2a4c201c92a27eefe11cd3e618a0534f439d", func := "milepost/milepostlaw16.PickPicks", spec := "pickPicks", unfollowed := true, recurses := true, apart := false }
def PickPicksSaid : Prop := pickPicksRow.holds Try.pinned (OpenSpec.ofChange pickPicksSpec)

/-- ITS FALSE NEIGHBOUR: 'it returns false'. Refute it at one input. -/
def pickPicksWrong : ChangeSpec := { name := "pickPicks", fn := fun _ => fun
  | [d] => { results := [.lit (.bool false)], args := [d] }
  | _ => none }
def PickPicksWrongFalsely : Prop := pickPicksRow.holds Try.pinned (OpenSpec.ofChange pickPicksWrong)

/-- 'milepostlaw16.PickApart': WHATEVER THE INPUT: true; the input reads as it did. -/
def pickApartSpec : ChangeSpec := { name := "pickApart", fn := fun _ => fun
  | [d] => { results := [.lit (.bool true)], args := [d] }
  | _ => none }
def pickApartRow : OpenClaim := { program := "ytbdieifggciopaa", sum := "697d9d4da0e5829d3f8625558c2d2a4c201c92a27eefe11cd3e618a0534f439d", func := "milepost/milepostlaw16.PickApart", spec := "pickApart", unfollowed := true, recurses := true, apart := false }
def PickApartSaid : Prop := pickApartRow.holds Try.pinned (OpenSpec.ofChange pickApartSpec)

/-- ITS FALSE NEIGHBOUR: 'it returns false'. Refute it at one input. -/
def pickApartWrong : ChangeSpec := { name := "pickApart", fn := fun _ => fun
  | [d] => { results := [.lit (.bool false)], args := [d] }
  | _ => none }
def PickApartWrongFalsely : Prop := pickApartRow.holds Try.pinned (OpenSpec.ofChange pickApartWrong)

/-- 'milepostlaw16.PickOrder': WHATEVER THE INPUT: true; the input reads as it did. -/
def pickOrderSpec : ChangeSpec := { name := "pickOrder", fn := fun _ => fun
  | [d1, d2] => { results := [.lit (.bool true)], args := [d1, d2] }
  | _ => none }
def pickOrderRow : OpenClaim := { program := "ytbdieifggciopaa", sum := "697d9d4da0e5829d3f8625558c2d2a4c201c92a27eefe11cd3e618a0534f439d", func := "milepost/milepostlaw16.PickOrder", spec := "pickOrder", unfollowed := true, recurses := true, apart := false }
def PickOrderSaid : Prop := pickOrderRow.holds Try.pinned (OpenSpec.ofChange pickOrderSpec)

/-- ITS FALSE NEIGHBOUR: 'it returns false'. Refute it at one input. -/
def pickOrderWrong : ChangeSpec := { name := "pickOrder", fn := fun _ => fun
  | [d1, d2] => { results := [.lit (.bool false)], args := [d1, d2] }
  | _ => none }
def PickOrderWrongFalsely : Prop := pickOrderRow.holds Try.pinned (OpenSpec.ofChange pickOrderWrong)

/-- 'milepostlaw16.PickLone': WHATEVER THE INPUT: true; the input reads as it did. -/
def pickLoneSpec : ChangeSpec := { name := "pickLone", fn := fun _ => fun
  | [d] => { results := [.lit (.bool true)], args := [d] }
  | _ => none }
def pickLoneRow : OpenClaim := { program := "ytbdieifggciopaa", sum := "697d9d4da0e5829d3f8625558c2d2a4c201c92a27eefe11cd3e618a0534f439d", func := "milepost/milepostlaw16.PickLone", spec := "pickLone", unfollowed := true, recurses := true, apart := false }
def PickLoneSaid : Prop := pickLoneRow.holds Try.pinned (OpenSpec.ofChange pickLoneSpec)

/-- ITS FALSE NEIGHBOUR: 'it returns false'. Refute it at one input. -/
def pickLoneWrong : ChangeSpec := { name := "pickLone", fn := fun _ => fun
  | [d] => { results := [.lit (.bool false)], args := [d] }
  | _ => none }
def PickLoneWrongFalsely : Prop := pickLoneRow.holds Try.pinned (OpenSpec.ofChange pickLoneWrong)

/-- 'milepostlaw16.PickCrowd': WHATEVER THE INPUT: true; the input reads as it did. -/
def pickCrowdSpec : ChangeSpec := { name := "pickCrowd", fn := fun _ => fun
  | [d1, d2] => { results := [.lit (.bool true)], args := [d1, d2] }
  | _ => none }
def pickCrowdRow : OpenClaim := { program := "ytbdieifggciopaa", sum := "697d9d4da0e5829d3f8625558c2d2a4c201c92a27eefe11cd3e618a0534f439d", func := "milepost/milepostlaw16.PickCrowd", spec := "pickCrowd", unfollowed := true, recurses := true, apart := false }
def PickCrowdSaid : Prop := pickCrowdRow.holds Try.pinned (OpenSpec.ofChange pickCrowdSpec)

/-- ITS FALSE NEIGHBOUR: 'it returns false'. Refute it at one input. -/
def pickCrowdWrong : ChangeSpec := { name := "pickCrowd", fn := fun _ => fun
  | [d1, d2] => { results := [.lit (.bool false)], args := [d1, d2] }
  | _ => none }
def PickCrowdWrongFalsely : Prop := pickCrowdRow.holds Try.pinned (OpenSpec.ofChange pickCrowdWrong)

/-- 'milepostlaw16.PickTwice': WHATEVER THE INPUT: true; the input reads as it did. -/
def pickTwiceSpec : ChangeSpec := { name := "pickTwice", fn := fun _ => fun
  | [d1, d2] => { results := [.lit (.bool true)], args := [d1, d2] }
  | _ => none }
def pickTwiceRow : OpenClaim := { program := "ytbdieifggciopaa", sum := "697d9d4da0e5829d3f8625558c2d2a4c201c92a27eefe11cd3e618a0534f439d", func := "milepost/milepostlaw16.PickTwice", spec := "pickTwice", unfollowed := true, recurses := true, apart := false }
def PickTwiceSaid : Prop := pickTwiceRow.holds Try.pinned (OpenSpec.ofChange pickTwiceSpec)

/-- ITS FALSE NEIGHBOUR: 'it returns false'. Refute it at one input. -/
def pickTwiceWrong : ChangeSpec := { name := "pickTwice", fn := fun _ => fun
  | [d1, d2] => { results := [.lit (.bool false)], args := [d1, d2] }
  | _ => none }
def PickTwiceWrongFalsely : Prop := pickTwiceRow.holds Try.pinned (OpenSpec.ofChange pickTwiceWrong)

/- THE SECOND FORM. 'bulk': how many values and letters a reading holds, each counted each time it is reached (what is shared counts as often as it is met; a slice's spare places count too). A statement '..UptoSaid' is the law's where the arguments, and the package variables that the reading takes, are together of bulk at most 1048576: NARROWER than '..Said'. Prove '..Said' where nothing that the law and all that it calls make is longer than what came in: it says more and counts as full. Else prove '..UptoSaid'. A law counts once. -/
mutual
def uptoBulk {H : Type} : DataW H → Nat
  | .lit (.string bytes) => bytes.length + 1
  | .lit _ => 1
  | .nil => 1
  | .ptr d => uptoBulk d + 1
  | .slice elems spare => uptoBulkAll elems + uptoBulkAll spare + 1
  | .agg parts => uptoBulkAll parts + 1
  | .iface _ d => uptoBulk d + 1
  | .map entries => uptoBulkEntries entries + 1
  | .held _ => 1
def uptoBulkAll {H : Type} : List (DataW H) → Nat
  | [] => 0
  | d :: r => uptoBulk d + uptoBulkAll r
def uptoBulkEntries {H : Type} : List (Lit × DataW H) → Nat
  | [] => 0
  | x :: r => uptoBulkEntry x + uptoBulkEntries r
def uptoBulkEntry {H : Type} : Lit × DataW H → Nat
  | (.string bytes, d) => bytes.length + uptoBulk d + 1
  | (_, d) => uptoBulk d + 1
 end
def uptoSmall : (H : Type) → List (DataW H) → Bool := fun _ ds => decide (uptoBulkAll ds ≤ 1048576)
def OpenSpec.upto (s : _root_.Go.ChangeSpec) : _root_.Go.OpenSpec := { _root_.Go.OpenSpec.ofChange s with cond := some uptoSmall }

/-- 'milepostlaw16.PickPicks', WHERE WHAT IT READS IS OF BULK AT MOST 1048576: true; the input reads as it did. -/
def pickPicksUptoRow : OpenClaim := { program := "ytbdieifggciopaa", sum := "697d9d4da0e5829d3f8625558c2d2a4c201c92a27eefe11cd3e618a0534f439d", func := "milepost/milepostlaw16.PickPicks", spec := "pickPicks", unfollowed := true, recurses := true, apart := false, narrowed := true }
def PickPicksUptoSaid : Prop := pickPicksUptoRow.holds Try.pinned (OpenSpec.upto pickPicksSpec)

/-- 'milepostlaw16.PickApart', WHERE WHAT IT READS IS OF BULK AT MOST 1048576: true; the input reads as it did. -/
def pickApartUptoRow : OpenClaim := { program := "ytbdieifggciopaa", sum := "697d9d4da0e5829d3f8625558c2d2a4c201c92a27eefe11cd3e618a0534f439d", func := "milepost/milepostlaw16.PickApart", spec := "pickApart", unfollowed := true, recurses := true, apart := false, narrowed := true }
def PickApartUptoSaid : Prop := pickApartUptoRow.holds Try.pinned (OpenSpec.upto pickApartSpec)

/-- 'milepostlaw16.PickOrder', WHERE WHAT IT READS IS OF BULK AT MOST 1048576: true; the input reads as it did. -/
def pickOrderUptoRow : OpenClaim := { program := "ytbdieifggciopaa", sum := "697d9d4da0e5829d3f8625558c2d2a4c201c92a27eefe11cd3e618a0534f439d", func := "milepost/milepostlaw16.PickOrder", spec := "pickOrder", unfollowed := true, recurses := true, apart := false, narrowed := true }
def PickOrderUptoSaid : Prop := pickOrderUptoRow.holds Try.pinned (OpenSpec.upto pickOrderSpec)

/-- 'milepostlaw16.PickLone', WHERE WHAT IT READS IS OF BULK AT MOST 1048576: true; the input reads as it did. -/
def pickLoneUptoRow : OpenClaim := { program := "ytbdieifggciopaa", sum := "697d9d4da0e5829d3f8625558c2d2a4c201c92a27eefe11cd3e618a0534f439d", func := "milepost/milepostlaw16.PickLone", spec := "pickLone", unfollowed := true, recurses := true, apart := false, narrowed := true }
def PickLoneUptoSaid : Prop := pickLoneUptoRow.holds Try.pinned (OpenSpec.upto pickLoneSpec)

/-- 'milepostlaw16.PickCrowd', WHERE WHAT IT READS IS OF BULK AT MOST 1048576: true; the input reads as it did. -/
def pickCrowdUptoRow : OpenClaim := { program := "ytbdieifggciopaa", sum := "697d9d4da0e5829d3f8625558c2d2a4c201c92a27eefe11cd3e618a0534f439d", func := "milepost/milepostlaw16.PickCrowd", spec := "pickCrowd", unfollowed := true, recurses := true, apart := false, narrowed := true }
def PickCrowdUptoSaid : Prop := pickCrowdUptoRow.holds Try.pinned (OpenSpec.upto pickCrowdSpec)

/-- 'milepostlaw16.PickTwice', WHERE WHAT IT READS IS OF BULK AT MOST 1048576: true; the input reads as it did. -/
def pickTwiceUptoRow : OpenClaim := { program := "ytbdieifggciopaa", sum := "697d9d4da0e5829d3f8625558c2d2a4c201c92a27eefe11cd3e618a0534f439d", func := "milepost/milepostlaw16.PickTwice", spec := "pickTwice", unfollowed := true, recurses := true, apart := false, narrowed := true }
def PickTwiceUptoSaid : Prop := pickTwiceUptoRow.holds Try.pinned (OpenSpec.upto pickTwiceSpec)

end Rows
end Go.Proofs.Ytbdieifggciopaa
