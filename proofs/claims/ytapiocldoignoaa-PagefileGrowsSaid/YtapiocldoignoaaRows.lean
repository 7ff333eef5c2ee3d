/-
  No cell of these rows narrows 'for every input' (looked for: loops, veiled, ifaces, maps, wideKeys, modest, calm, conditions, laid).
  DERIVED. THE GIVEN ROWS OF THIS SEAT. 6 by the template 'for every input the law returns true; each argument reads behind the call as it read before'; 0 by the template 'total and deterministic' (their statements: YtapiocldoignoaaTotals.lean).
  GIVEN WITH THE SEED: the statements are not yours to turn. If you find one false, say at which input.
  Laid BY PROGRAM, IN A SANDBOX (cutbox-rows.mjs): the forced cells as the released guide's own fill.sh prints them over the translation e839076dce3ed92e… (all of the seat's roots in one cut). By AI agents, Wed Nov 11 2026. No macro, syntax, notation, axiom, sorry.
-/
import Derived.Test.YtapiocldoignoaaChecked
import GoSem.Claim
import GoSem.ClaimJoined
import GoSem.ClaimMapViews
import Derived.JoinedTies
import Derived.KernelRfl
namespace Go.Proofs.Ytapiocldoignoaa
/- THE CELL 'sum', in the pinned program and in every row, IS THE sha256 OF THE DUMP (.gsa) THAT YtapiocldoignoaaProg.lean LOADS. Nothing in Lean hashes anything: it is a label: what it is worth is what the hold of that sum in a sandbox is worth. -/
noncomputable def Try.pinned : Pinned := { name := "ytapiocldoignoaa", sum := "e839076dce3ed92e9f60a23b970638f8058810e15236a4dc650e17fa708639b0", checked := Try.checked }
namespace Rows
def none {H : Type} : Left H := { results := [], args := [] }

/-- 'milepostlaw08.PagefileBack': WHATEVER THE INPUT: true; the input reads as it did. -/
def pagefileBackSpec : ChangeSpec := { name := "pagefileBack", fn := fun _ => fun
  | [d1, d2, d3] => { results := [.lit (.bool true)], args := [d1, d2, d3] }
  | _ => none }
def pagefileBackRow : OpenClaim := { program := "ytapiocldoignoaa", sum := "e839076dce3ed92e9f60a23b970638f8058810e15236a4dc650e17fa708639b0", func := "milepost/milepostlaw08.PagefileBack", spec := "pagefileBack", unfollowed := true, recurses := true, plainKeys := false, apart := false }
def PagefileBackSaid : Prop := pagefileBackRow.holds Try.pinned (OpenSpec.ofChange pagefileBackSpec)

/-- ITS FALSE NEIGHBOUR: 'it returns false'. Refute it at one input. -/
def pagefileBackWrong : ChangeSpec := { name := "pagefileBack", fn := fun _ => fun
  | [d1, d2, d3] => { results := [.lit (.bool false)], args := [d1, d2, d3] }
  | _ => none }
def PagefileBackWrongFalsely : Prop := pagefileBackRow.holds Try.pinned (OpenSpec.ofChange pagefileBackWrong)

/-- 'milepostlaw08.PagefileNil': WHATEVER THE INPUT: true; the input reads as it did. -/
def pagefileNilSpec : ChangeSpec := { name := "pagefileNil", fn := fun _ => fun
  | [d1, d2, d3] => { results := [.lit (.bool true)], args := [d1, d2, d3] }
  | _ => none }
def pagefileNilRow : OpenClaim := { program := "ytapiocldoignoaa", sum := "e839076dce3ed92e9f60a23b970638f8058810e15236a4dc650e17fa708639b0", func := "milepost/milepostlaw08.PagefileNil", spec := "pagefileNil", unfollowed := true, recurses := true, plainKeys := false, apart := false }
def PagefileNilSaid : Prop := pagefileNilRow.holds Try.pinned (OpenSpec.ofChange pagefileNilSpec)

/-- ITS FALSE NEIGHBOUR: 'it returns false'. Refute it at one input. -/
def pagefileNilWrong : ChangeSpec := { name := "pagefileNil", fn := fun _ => fun
  | [d1, d2, d3] => { results := [.lit (.bool false)], args := [d1, d2, d3] }
  | _ => none }
def PagefileNilWrongFalsely : Prop := pagefileNilRow.holds Try.pinned (OpenSpec.ofChange pagefileNilWrong)

/-- 'milepostlaw08.PagefileNumbers': WHATEVER THE INPUT: true; the input reads as it did. -/
def pagefileNumbersSpec : ChangeSpec := { name := "pagefileNumbers", fn := fun _ => fun
  | [d1, d2, d3] => { results := [.lit (.bool true)], args := [d1, d2, d3] }
  | _ => none }
def pagefileNumbersRow : OpenClaim := { program := "ytapiocldoignoaa", sum := "e839076dce3ed92e9f60a23b970638f8058810e15236a4dc650e17fa708639b0", func := "milepost/milepostlaw08.PagefileNumbers", spec := "pagefileNumbers", unfollowed := true, recurses := true, plainKeys := false, apart := false }
def PagefileNumbersSaid : Prop := pagefileNumbersRow.holds Try.pinned (OpenSpec.ofChange pagefileNumbersSpec)

/-- ITS FALSE NEIGHBOUR: 'it returns false'. Refute it at one input. -/
def pagefileNumbersWrong : ChangeSpec := { name := "pagefileNumbers", fn := fun _ => fun
  | [d1, d2, d3] => { results := [.lit (.bool false)], args := [d1, d2, d3] }
  | _ => none }
def PagefileNumbersWrongFalsely : Prop := pagefileNumbersRow.holds Try.pinned (OpenSpec.ofChange pagefileNumbersWrong)

/-- 'milepostlaw08.PagefileTells': WHATEVER THE INPUT: true; the input reads as it did. -/
def pagefileTellsSpec : ChangeSpec := { name := "pagefileTells", fn := fun _ => fun
  | [d1, d2, d3, d4] => { results := [.lit (.bool true)], args := [d1, d2, d3, d4] }
  | _ => none }
def pagefileTellsRow : OpenClaim := { program := "ytapiocldoignoaa", sum := "e839076dce3ed92e9f60a23b970638f8058810e15236a4dc650e17fa708639b0", func := "milepost/milepostlaw08.PagefileTells", spec := "pagefileTells", unfollowed := true, recurses := true, plainKeys := false, apart := false }
def PagefileTellsSaid : Prop := pagefileTellsRow.holds Try.pinned (OpenSpec.ofChange pagefileTellsSpec)

/-- ITS FALSE NEIGHBOUR: 'it returns false'. Refute it at one input. -/
def pagefileTellsWrong : ChangeSpec := { name := "pagefileTells", fn := fun _ => fun
  | [d1, d2, d3, d4] => { results := [.lit (.bool false)], args := [d1, d2, d3, d4] }
  | _ => none }
def PagefileTellsWrongFalsely : Prop := pagefileTellsRow.holds Try.pinned (OpenSpec.ofChange pagefileTellsWrong)

/-- 'milepostlaw08.PagefileGrows': WHATEVER THE INPUT: true; the input reads as it did. -/
def pagefileGrowsSpec : ChangeSpec := { name := "pagefileGrows", fn := fun _ => fun
  | [d1, d2, d3] => { results := [.lit (.bool true)], args := [d1, d2, d3] }
  | _ => none }
def pagefileGrowsRow : OpenClaim := { program := "ytapiocldoignoaa", sum := "e839076dce3ed92e9f60a23b970638f8058810e15236a4dc650e17fa708639b0", func := "milepost/milepostlaw08.PagefileGrows", spec := "pagefileGrows", unfollowed := true, recurses := true, plainKeys := false, apart := false }
def PagefileGrowsSaid : Prop := pagefileGrowsRow.holds Try.pinned (OpenSpec.ofChange pagefileGrowsSpec)

/-- ITS FALSE NEIGHBOUR: 'it returns false'. Refute it at one input. -/
def pagefileGrowsWrong : ChangeSpec := { name := "pagefileGrows", fn := fun _ => fun
  | [d1, d2, d3] => { results := [.lit (.bool false)], args := [d1, d2, d3] }
  | _ => none }
def PagefileGrowsWrongFalsely : Prop := pagefileGrowsRow.holds Try.pinned (OpenSpec.ofChange pagefileGrowsWrong)

/-- 'milepostlaw08.PagefileTorn': WHATEVER THE INPUT: true; the input reads as it did. -/
def pagefileTornSpec : ChangeSpec := { name := "pagefileTorn", fn := fun _ => fun
  | [d1, d2, d3, d4] => { results := [.lit (.bool true)], args := [d1, d2, d3, d4] }
  | _ => none }
def pagefileTornRow : OpenClaim := { program := "ytapiocldoignoaa", sum := "e839076dce3ed92e9f60a23b970638f8058810e15236a4dc650e17fa708639b0", func := "milepost/milepostlaw08.PagefileTorn", spec := "pagefileTorn", unfollowed := true, recurses := true, plainKeys := false, apart := false }
def PagefileTornSaid : Prop := pagefileTornRow.holds Try.pinned (OpenSpec.ofChange pagefileTornSpec)

/-- ITS FALSE NEIGHBOUR: 'it returns false'. Refute it at one input. -/
def pagefileTornWrong : ChangeSpec := { name := "pagefileTorn", fn := fun _ => fun
  | [d1, d2, d3, d4] => { results := [.lit (.bool false)], args := [d1, d2, d3, d4] }
  | _ => none }
def PagefileTornWrongFalsely : Prop := pagefileTornRow.holds Try.pinned (OpenSpec.ofChange pagefileTornWrong)

/- THE SECOND FORM. 'bulk': how many values and letters a reading holds, each counted each time it is reached (what is shared counts as often as it is met; a slice's spare places count too). A statement '..UptoSaid' is the law's where the arguments, and the package variables that the reading takes, are together of bulk at most 1048576: NARROWER than '..Said'. Prove '..Said' where nothing that the law and all that it calls make is longer than what came in: it says more and counts as full. Else prove '..UptoSaid'. A law counts once. -/
mutual
def uptoBulk {H : Type} : DataW H → Nat
  | .lit (.string bytes) => bytes.length + 1
  | .lit _ => 1
  | .nil => 1
  | .ptr d => uptoBulk d + 1
  | .slice elems spare => uptoBulkAll elems + uptoBulkAll spare + 1
  | .agg parts => uptoBulkAll parts + 1
  | .iface _ d => uptoBulk d + 1
  | .map entries => uptoBulkEntries entries + 1
  | .held _ => 1
def uptoBulkAll {H : Type} : List (DataW H) → Nat
  | [] => 0
  | d :: r => uptoBulk d + uptoBulkAll r
def uptoBulkEntries {H : Type} : List (Lit × DataW H) → Nat
  | [] => 0
  | x :: r => uptoBulkEntry x + uptoBulkEntries r
def uptoBulkEntry {H : Type} : Lit × DataW H → Nat
  | (.string bytes, d) => bytes.length + uptoBulk d + 1
  | (_, d) => uptoBulk d + 1
 end
def uptoSmall : (H : Type) → List (DataW H) → Bool := fun _ ds => decide (uptoBulkAll ds ≤ 1048576)
def OpenSpec.upto (s : _root_.Go.ChangeSpec) : _root_.Go.OpenSpec := { _root_.Go.OpenSpec.ofChange s with cond := some uptoSmall }

/-- 'milepostlaw08.PagefileBack', WHERE WHAT IT READS IS OF BULK AT MOST 1048576: true; the input reads as it did. -/
def pagefileBackUptoRow : OpenClaim := { program := "ytapiocldoignoaa", sum := "e839076dce3ed92e9f60a23b970638f8058810e15236a4dc650e17fa708639b0", func := "milepost/milepostlaw08.PagefileBack", spec := "pagefileBack", unfollowed := true, recurses := true, plainKeys := false, apart := false, narrowed := true }
def PagefileBackUptoSaid : Prop := pagefileBackUptoRow.holds Try.pinned (OpenSpec.upto pagefileBackSpec)

/-- 'milepostlaw08.PagefileNil', WHERE WHAT IT READS IS OF BULK AT MOST 1048576: true; the input reads as it did. -/
def pagefileNilUptoRow : OpenClaim := { program := "ytapiocldoignoaa", sum := "e839076dce3ed92e9f60a23b970638f8058810e15236a4dc650e17fa708639b0", func := "milepost/milepostlaw08.PagefileNil", spec := "pagefileNil", unfollowed := true, recurses := true, plainKeys := false, apart := false, narrowed := true }
def PagefileNilUptoSaid : Prop := pagefileNilUptoRow.holds Try.pinned (OpenSpec.upto pagefileNilSpec)

/-- 'milepostlaw08.PagefileNumbers', WHERE WHAT IT READS IS OF BULK AT MOST 1048576: true; the input reads as it did. -/
def pagefileNumbersUptoRow : OpenClaim := { program := "ytapiocldoignoaa", sum := "e839076dce3ed92e9f60a23b970638f8058810e15236a4dc650e17fa708639b0", func := "milepost/milepostlaw08.PagefileNumbers", spec := "pagefileNumbers", unfollowed := true, recurses := true, plainKeys := false, apart := false, narrowed := true }
def PagefileNumbersUptoSaid : Prop := pagefileNumbersUptoRow.holds Try.pinned (OpenSpec.upto pagefileNumbersSpec)

/-- 'milepostlaw08.PagefileTells', WHERE WHAT IT READS IS OF BULK AT MOST 1048576: true; the input reads as it did. -/
def pagefileTellsUptoRow : OpenClaim := { program := "ytapiocldoignoaa", sum := "e839076dce3ed92e9f60a23b970638f8058810e15236a4dc650e17fa708639b0", func := "milepost/milepostlaw08.PagefileTells", spec := "pagefileTells", unfollowed := true, recurses := true, plainKeys := false, apart := false, narrowed := true }
def PagefileTellsUptoSaid : Prop := pagefileTellsUptoRow.holds Try.pinned (OpenSpec.upto pagefileTellsSpec)

/-- 'milepostlaw08.PagefileGrows', WHERE WHAT IT READS IS OF BULK AT MOST 1048576: true; the input reads as it did. -/
def pagefileGrowsUptoRow : OpenClaim := { program := "ytapiocldoignoaa", sum := "e839076dce3ed92e9f60a23b970638f8058810e15236a4dc650e17fa708639b0", func := "milepost/milepostlaw08.PagefileGrows", spec := "pagefileGrows", unfollowed := true, recurses := true, plainKeys := false, apart := false, narrowed := true }
def PagefileGrowsUptoSaid : Prop := pagefileGrowsUptoRow.holds Try.pinned (OpenSpec.upto pagefileGrowsSpec)

/-- 'milepostlaw08.PagefileTorn', WHERE WHAT IT READS IS OF BULK AT MOST 1048576: true; the input reads as it did. -/
def pagefileTornUptoRow : OpenClaim := { program := "ytapiocldoignoaa", sum := "e839076dce3ed92e9f60a23b970638f8058810e15236a4dc650e17fa708639b0", func := "milepost/milepostlaw08.PagefileTorn", spec := "pagefileTorn", unfollowed := true, recurses := true, plainKeys := false, apart := false, narrowed := true }
def PagefileTornUptoSaid : Prop := pagefileTornUptoRow.holds Try.pinned (OpenSpec.upto pagefileTornSpec)

end Rows
end Go.Proofs.Ytapiocldoignoaa
