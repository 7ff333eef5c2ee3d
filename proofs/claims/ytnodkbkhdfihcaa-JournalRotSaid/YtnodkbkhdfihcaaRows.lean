/-
  No cell of these rows narrows 'for every input' (looked for: loops, veiled, ifaces, maps, wideKeys, modest, calm, conditions, laid).
  DERIVED. THE GIVEN ROWS OF THIS SEAT. 7 by the template 'for every input the law returns true; each argument reads behind the call as it read before'; 0 by the template 'total and deterministic' (their statements: YtnodkbkhdfihcaaTotals.lean).
  GIVEN WITH THE SEED: the statements are not yours to turn. If you find one false, say at which input.
  Laid BY PROGRAM, IN A SANDBOX (cutbox-rows.mjs): the forced cells as the released guide's own fill.sh prints them over the translation d4ae052a74d231ac… (all of the seat's roots in one cut). By AI agents, Wed Nov 11 2026. No macro, syntax, notation, axiom, sorry.
-/
import Derived.Test.YtnodkbkhdfihcaaChecked
import GoSem.Claim
import GoSem.ClaimJoined
import GoSem.ClaimMapViews
import Derived.JoinedTies
import Derived.KernelRfl
namespace Go.Proofs.Ytnodkbkhdfihcaa
/- THE CELL 'sum', in the pinned program and in every row, IS THE sha256 OF THE DUMP (.gsa) THAT YtnodkbkhdfihcaaProg.lean LOADS. Nothing in Lean hashes anything: it is a label: what it is worth is what the hold of that sum in a sandbox is worth. -/
noncomputable def Try.pinned : Pinned := { name := "ytnodkbkhdfihcaa", sum := "d4ae052a74d231ac655b6b6d7d69b18c17392c2f738b77289124b288f108d925", checked := Try.checked }
namespace Rows
def none {H : Type} : Left H := { results := [], args := [] }

/-- 'milepostlaw09.JournalReads': WHATEVER THE INPUT: true; the input reads as it did. -/
def journalReadsSpec : ChangeSpec := { name := "journalReads", fn := fun _ => fun
  | [d] => { results := [.lit (.bool true)], args := [d] }
  | _ => none }
def journalReadsRow : OpenClaim := { program := "ytnodkbkhdfihcaa", sum := "d4ae052a74d231ac655b6b6d7d69b18c17392c2f738b77289124b288f108d925", func := "milepost/milepostlaw09.JournalReads", spec := "journalReads", unfollowed := true, recurses := true, plainKeys := false, apart := false }
def JournalReadsSaid : Prop := journalReadsRow.holds Try.pinned (OpenSpec.ofChange journalReadsSpec)

/-- ITS FALSE NEIGHBOUR: 'it returns false'. Refute it at one input. -/
def journalReadsWrong : ChangeSpec := { name := "journalReads", fn := fun _ => fun
  | [d] => { results := [.lit (.bool false)], args := [d] }
  | _ => none }
def JournalReadsWrongFalsely : Prop := journalReadsRow.holds Try.pinned (OpenSpec.ofChange journalReadsWrong)

/-- 'milepostlaw09.JournalCut': WHATEVER THE INPUT: true; the input reads as it did. -/
def journalCutSpec : ChangeSpec := { name := "journalCut", fn := fun _ => fun
  | [d1, d2] => { results := [.lit (.bool true)], args := [d1, d2] }
  | _ => none }
def journalCutRow : OpenClaim := { program := "ytnodkbkhdfihcaa", sum := "d4ae052a74d231ac655b6b6d7d69b18c17392c2f738b77289124b288f108d925", func := "milepost/milepostlaw09.JournalCut", spec := "journalCut", unfollowed := true, recurses := true, plainKeys := false, apart := false }
def JournalCutSaid : Prop := journalCutRow.holds Try.pinned (OpenSpec.ofChange journalCutSpec)

/-- ITS FALSE NEIGHBOUR: 'it returns false'. Refute it at one input. -/
def journalCutWrong : ChangeSpec := { name := "journalCut", fn := fun _ => fun
  | [d1, d2] => { results := [.lit (.bool false)], args := [d1, d2] }
  | _ => none }
def JournalCutWrongFalsely : Prop := journalCutRow.holds Try.pinned (OpenSpec.ofChange journalCutWrong)

/-- 'milepostlaw09.JournalMoves': WHATEVER THE INPUT: true; the input reads as it did. -/
def journalMovesSpec : ChangeSpec := { name := "journalMoves", fn := fun _ => fun
  | [d1, d2, d3] => { results := [.lit (.bool true)], args := [d1, d2, d3] }
  | _ => none }
def journalMovesRow : OpenClaim := { program := "ytnodkbkhdfihcaa", sum := "d4ae052a74d231ac655b6b6d7d69b18c17392c2f738b77289124b288f108d925", func := "milepost/milepostlaw09.JournalMoves", spec := "journalMoves", unfollowed := true, recurses := true, plainKeys := false, apart := false }
def JournalMovesSaid : Prop := journalMovesRow.holds Try.pinned (OpenSpec.ofChange journalMovesSpec)

/-- ITS FALSE NEIGHBOUR: 'it returns false'. Refute it at one input. -/
def journalMovesWrong : ChangeSpec := { name := "journalMoves", fn := fun _ => fun
  | [d1, d2, d3] => { results := [.lit (.bool false)], args := [d1, d2, d3] }
  | _ => none }
def JournalMovesWrongFalsely : Prop := journalMovesRow.holds Try.pinned (OpenSpec.ofChange journalMovesWrong)

/-- 'milepostlaw09.JournalNil': WHATEVER THE INPUT: true; the input reads as it did. -/
def journalNilSpec : ChangeSpec := { name := "journalNil", fn := fun _ => fun
  | [d1, d2] => { results := [.lit (.bool true)], args := [d1, d2] }
  | _ => none }
def journalNilRow : OpenClaim := { program := "ytnodkbkhdfihcaa", sum := "d4ae052a74d231ac655b6b6d7d69b18c17392c2f738b77289124b288f108d925", func := "milepost/milepostlaw09.JournalNil", spec := "journalNil", unfollowed := true, recurses := true, plainKeys := false, apart := false }
def JournalNilSaid : Prop := journalNilRow.holds Try.pinned (OpenSpec.ofChange journalNilSpec)

/-- ITS FALSE NEIGHBOUR: 'it returns false'. Refute it at one input. -/
def journalNilWrong : ChangeSpec := { name := "journalNil", fn := fun _ => fun
  | [d1, d2] => { results := [.lit (.bool false)], args := [d1, d2] }
  | _ => none }
def JournalNilWrongFalsely : Prop := journalNilRow.holds Try.pinned (OpenSpec.ofChange journalNilWrong)

/-- 'milepostlaw09.JournalRot': WHATEVER THE INPUT: true; the input reads as it did. -/
def journalRotSpec : ChangeSpec := { name := "journalRot", fn := fun _ => fun
  | [d1, d2, d3, d4] => { results := [.lit (.bool true)], args := [d1, d2, d3, d4] }
  | _ => none }
def journalRotRow : OpenClaim := { program := "ytnodkbkhdfihcaa", sum := "d4ae052a74d231ac655b6b6d7d69b18c17392c2f738b77289124b288f108d925", func := "milepost/milepostlaw09.JournalRot", spec := "journalRot", unfollowed := true, recurses := true, plainKeys := false, apart := false }
def JournalRotSaid : Prop := journalRotRow.holds Try.pinned (OpenSpec.ofChange journalRotSpec)

/-- ITS FALSE NEIGHBOUR: 'it returns false'. Refute it at one input. -/
def journalRotWrong : ChangeSpec := { name := "journalRot", fn := fun _ => fun
  | [d1, d2, d3, d4] => { results := [.lit (.bool false)], args := [d1, d2, d3, d4] }
  | _ => none }
def JournalRotWrongFalsely : Prop := journalRotRow.holds Try.pinned (OpenSpec.ofChange journalRotWrong)

/-- 'milepostlaw09.JournalLasts': WHATEVER THE INPUT: true; the input reads as it did. -/
def journalLastsSpec : ChangeSpec := { name := "journalLasts", fn := fun _ => fun
  | [d1, d2, d3] => { results := [.lit (.bool true)], args := [d1, d2, d3] }
  | _ => none }
def journalLastsRow : OpenClaim := { program := "ytnodkbkhdfihcaa", sum := "d4ae052a74d231ac655b6b6d7d69b18c17392c2f738b77289124b288f108d925", func := "milepost/milepostlaw09.JournalLasts", spec := "journalLasts", unfollowed := true, recurses := true, plainKeys := false, apart := false }
def JournalLastsSaid : Prop := journalLastsRow.holds Try.pinned (OpenSpec.ofChange journalLastsSpec)

/-- ITS FALSE NEIGHBOUR: 'it returns false'. Refute it at one input. -/
def journalLastsWrong : ChangeSpec := { name := "journalLasts", fn := fun _ => fun
  | [d1, d2, d3] => { results := [.lit (.bool false)], args := [d1, d2, d3] }
  | _ => none }
def JournalLastsWrongFalsely : Prop := journalLastsRow.holds Try.pinned (OpenSpec.ofChange journalLastsWrong)

/-- 'milepostlaw09.JournalBacks': WHATEVER THE INPUT: true; the input reads as it did. -/
def journalBacksSpec : ChangeSpec := { name := "journalBacks", fn := fun _ => fun
  | [d1, d2, d3] => { results := [.lit (.bool true)], args := [d1, d2, d3] }
  | _ => none }
def journalBacksRow : OpenClaim := { program := "ytnodkbkhdfihcaa", sum := "d4ae052a74d231ac655b6b6d7d69b18c17392c2f738b77289124b288f108d925", func := "milepost/milepostlaw09.JournalBacks", spec := "journalBacks", unfollowed := true, recurses := true, plainKeys := false, apart := false }
def JournalBacksSaid : Prop := journalBacksRow.holds Try.pinned (OpenSpec.ofChange journalBacksSpec)

/-- ITS FALSE NEIGHBOUR: 'it returns false'. Refute it at one input. -/
def journalBacksWrong : ChangeSpec := { name := "journalBacks", fn := fun _ => fun
  | [d1, d2, d3] => { results := [.lit (.bool false)], args := [d1, d2, d3] }
  | _ => none }
def JournalBacksWrongFalsely : Prop := journalBacksRow.holds Try.pinned (OpenSpec.ofChange journalBacksWrong)

/- THE SECOND FORM. 'bulk': how many values and letters a reading holds, each counted each time it is reached (what is shared counts as often as it is met; a slice's spare places count too). A statement '..UptoSaid' is the law's where the arguments, and the package variables that the reading takes, are together of bulk at most 1048576: NARROWER than '..Said'. Prove '..Said' where nothing that the law and all that it calls make is longer than what came in: it says more and counts as full. Else prove '..UptoSaid'. A law counts once. -/
mutual
def uptoBulk {H : Type} : DataW H → Nat
  | .lit (.string bytes) => bytes.length + 1
  | .lit _ => 1
  | .nil => 1
  | .ptr d => uptoBulk d + 1
  | .slice elems spare => uptoBulkAll elems + uptoBulkAll spare + 1
  | .agg parts => uptoBulkAll parts + 1
  | .iface _ d => uptoBulk d + 1
  | .map entries => uptoBulkEntries entries + 1
  | .held _ => 1
def uptoBulkAll {H : Type} : List (DataW H) → Nat
  | [] => 0
  | d :: r => uptoBulk d + uptoBulkAll r
def uptoBulkEntries {H : Type} : List (Lit × DataW H) → Nat
  | [] => 0
  | x :: r => uptoBulkEntry x + uptoBulkEntries r
def uptoBulkEntry {H : Type} : Lit × DataW H → Nat
  | (.string bytes, d) => bytes.length + uptoBulk d + 1
  | (_, d) => uptoBulk d + 1
 end
def uptoSmall : (H : Type) → List (DataW H) → Bool := fun _ ds => decide (uptoBulkAll ds ≤ 1048576)
def OpenSpec.upto (s : _root_.Go.ChangeSpec) : _root_.Go.OpenSpec := { _root_.Go.OpenSpec.ofChange s with cond := some uptoSmall }

/-- 'milepostlaw09.JournalReads', WHERE WHAT IT READS IS OF BULK AT MOST 1048576: true; the input reads as it did. -/
def journalReadsUptoRow : OpenClaim := { program := "ytnodkbkhdfihcaa", sum := "d4ae052a74d231ac655b6b6d7d69b18c17392c2f738b77289124b288f108d925", func := "milepost/milepostlaw09.JournalReads", spec := "journalReads", unfollowed := true, recurses := true, plainKeys := false, apart := false, narrowed := true }
def JournalReadsUptoSaid : Prop := journalReadsUptoRow.holds Try.pinned (OpenSpec.upto journalReadsSpec)

/-- 'milepostlaw09.JournalCut', WHERE WHAT IT READS IS OF BULK AT MOST 1048576: true; the input reads as it did. -/
def journalCutUptoRow : OpenClaim := { program := "ytnodkbkhdfihcaa", sum := "d4ae052a74d231ac655b6b6d7d69b18c17392c2f738b77289124b288f108d925", func := "milepost/milepostlaw09.JournalCut", spec := "journalCut", unfollowed := true, recurses := true, plainKeys := false, apart := false, narrowed := true }
def JournalCutUptoSaid : Prop := journalCutUptoRow.holds Try.pinned (OpenSpec.upto journalCutSpec)

/-- 'milepostlaw09.JournalMoves', WHERE WHAT IT READS IS OF BULK AT MOST 1048576: true; the input reads as it did. -/
def journalMovesUptoRow : OpenClaim := { program := "ytnodkbkhdfihcaa", sum := "d4ae052a74d231ac655b6b6d7d69b18c17392c2f738b77289124b288f108d925", func := "milepost/milepostlaw09.JournalMoves", spec := "journalMoves", unfollowed := true, recurses := true, plainKeys := false, apart := false, narrowed := true }
def JournalMovesUptoSaid : Prop := journalMovesUptoRow.holds Try.pinned (OpenSpec.upto journalMovesSpec)

/-- 'milepostlaw09.JournalNil', WHERE WHAT IT READS IS OF BULK AT MOST 1048576: true; the input reads as it did. -/
def journalNilUptoRow : OpenClaim := { program := "ytnodkbkhdfihcaa", sum := "d4ae052a74d231ac655b6b6d7d69b18c17392c2f738b77289124b288f108d925", func := "milepost/milepostlaw09.JournalNil", spec := "journalNil", unfollowed := true, recurses := true, plainKeys := false, apart := false, narrowed := true }
def JournalNilUptoSaid : Prop := journalNilUptoRow.holds Try.pinned (OpenSpec.upto journalNilSpec)

/-- 'milepostlaw09.JournalRot', WHERE WHAT IT READS IS OF BULK AT MOST 1048576: true; the input reads as it did. -/
def journalRotUptoRow : OpenClaim := { program := "ytnodkbkhdfihcaa", sum := "d4ae052a74d231ac655b6b6d7d69b18c17392c2f738b77289124b288f108d925", func := "milepost/milepostlaw09.JournalRot", spec := "journalRot", unfollowed := true, recurses := true, plainKeys := false, apart := false, narrowed := true }
def JournalRotUptoSaid : Prop := journalRotUptoRow.holds Try.pinned (OpenSpec.upto journalRotSpec)

/-- 'milepostlaw09.JournalLasts', WHERE WHAT IT READS IS OF BULK AT MOST 1048576: true; the input reads as it did. -/
def journalLastsUptoRow : OpenClaim := { program := "ytnodkbkhdfihcaa", sum := "d4ae052a74d231ac655b6b6d7d69b18c17392c2f738b77289124b288f108d925", func := "milepost/milepostlaw09.JournalLasts", spec := "journalLasts", unfollowed := true, recurses := true, plainKeys := false, apart := false, narrowed := true }
def JournalLastsUptoSaid : Prop := journalLastsUptoRow.holds Try.pinned (OpenSpec.upto journalLastsSpec)

/-- 'milepostlaw09.JournalBacks', WHERE WHAT IT READS IS OF BULK AT MOST 1048576: true; the input reads as it did. -/
def journalBacksUptoRow : OpenClaim := { program := "ytnodkbkhdfihcaa", sum := "d4ae052a74d231ac655b6b6d7d69b18c17392c2f738b77289124b288f108d925", func := "milepost/milepostlaw09.JournalBacks", spec := "journalBacks", unfollowed := true, recurses := true, plainKeys := false, apart := false, narrowed := true }
def JournalBacksUptoSaid : Prop := journalBacksUptoRow.holds Try.pinned (OpenSpec.upto journalBacksSpec)

end Rows
end Go.Proofs.Ytnodkbkhdfihcaa
