/-
  No cell of these rows narrows 'for every input' (looked for: loops, veiled, ifaces, maps, wideKeys, modest, calm, conditions, laid).
  DERIVED. THE GIVEN ROWS OF THIS SEAT. 5 by the template 'for every input the law returns true; each argument reads behind the call as it read before'; 0 by the template 'total and deterministic' (their statements: YtkpmadahfmpeiaaGreatTotals.lean).
  GIVEN WITH THE SEED: the statements are not yours to turn. If you find one false, say at which input.
  Laid BY PROGRAM, IN A SANDBOX (cutbox-rows.mjs): the forced cells as the released guide's own fill.sh prints them over the translation 44b64248c366f40d… (all of the seat's roots in one cut). By AI agents, Wed Nov 11 2026. No macro, syntax, notation, axiom, sorry.
-/
import Derived.Test.YtkpmadahfmpeiaaGreatChecked
import GoSem.Claim
import GoSem.ClaimJoined
import GoSem.ClaimMapViews
import Derived.JoinedTies
import Derived.KernelRfl
namespace Go.Proofs.YtkpmadahfmpeiaaGreat
/- THE CELL 'sum', in the pinned program and in every row, IS THE sha256 OF THE DUMP (.gsa) THAT YtkpmadahfmpeiaaGreatProg.lean LOADS. Nothing in Lean hashes anything: it is a label: what it is worth is what the hold of that sum in a sandbox is worth. -/
noncomputable def Tryz.pinned : Pinned := { name := "ytkpmadahfmpeiaagreat", sum := "44b64248c366f40d6dfc291bae1d860de455386ed8e92265e2eb79cb4caf71c0", checked := Tryz.checked }
namespace Rows
def none {H : Type} : Left H := { results := [], args := [] }

/-- 'milepostlaw10.PoolBack': WHATEVER THE INPUT: true; the input reads as it did. -/
def poolBackSpec : ChangeSpec := { name := "poolBack", fn := fun _ => fun
  | [d1, d2] => { results := [.lit (.bool true)], args := [d1, d2] }
  | _ => none }
def poolBackRow : OpenClaim := { program := "ytkpmadahfmpeiaagreat", sum := "44b64248c366f40d6dfc291bae1d860de455386ed8e92265e2eb79cb4caf71c0", func := "milepost/milepostlaw10.PoolBack", spec := "poolBack", unfollowed := true, recurses := true, plainKeys := false, apart := false }
def PoolBackSaid : Prop := poolBackRow.holds Tryz.pinned (OpenSpec.ofChange poolBackSpec)

/-- ITS FALSE NEIGHBOUR: 'it returns false'. Refute it at one input. -/
def poolBackWrong : ChangeSpec := { name := "poolBack", fn := fun _ => fun
  | [d1, d2] => { results := [.lit (.bool false)], args := [d1, d2] }
  | _ => none }
def PoolBackWrongFalsely : Prop := poolBackRow.holds Tryz.pinned (OpenSpec.ofChange poolBackWrong)

/-- 'milepostlaw09.JournalPlays': WHATEVER THE INPUT: true; the input reads as it did. -/
def journalPlaysSpec : ChangeSpec := { name := "journalPlays", fn := fun _ => fun
  | [d1, d2] => { results := [.lit (.bool true)], args := [d1, d2] }
  | _ => none }
def journalPlaysRow : OpenClaim := { program := "ytkpmadahfmpeiaagreat", sum := "44b64248c366f40d6dfc291bae1d860de455386ed8e92265e2eb79cb4caf71c0", func := "milepost/milepostlaw09.JournalPlays", spec := "journalPlays", unfollowed := true, recurses := true, plainKeys := false, apart := false }
def JournalPlaysSaid : Prop := journalPlaysRow.holds Tryz.pinned (OpenSpec.ofChange journalPlaysSpec)

/-- ITS FALSE NEIGHBOUR: 'it returns false'. Refute it at one input. -/
def journalPlaysWrong : ChangeSpec := { name := "journalPlays", fn := fun _ => fun
  | [d1, d2] => { results := [.lit (.bool false)], args := [d1, d2] }
  | _ => none }
def JournalPlaysWrongFalsely : Prop := journalPlaysRow.holds Tryz.pinned (OpenSpec.ofChange journalPlaysWrong)

/-- 'milepostlaw08.PagefilePlays': WHATEVER THE INPUT: true; the input reads as it did. -/
def pagefilePlaysSpec : ChangeSpec := { name := "pagefilePlays", fn := fun _ => fun
  | [d1, d2] => { results := [.lit (.bool true)], args := [d1, d2] }
  | _ => none }
def pagefilePlaysRow : OpenClaim := { program := "ytkpmadahfmpeiaagreat", sum := "44b64248c366f40d6dfc291bae1d860de455386ed8e92265e2eb79cb4caf71c0", func := "milepost/milepostlaw08.PagefilePlays", spec := "pagefilePlays", unfollowed := true, recurses := true, plainKeys := false, apart := false }
def PagefilePlaysSaid : Prop := pagefilePlaysRow.holds Tryz.pinned (OpenSpec.ofChange pagefilePlaysSpec)

/-- ITS FALSE NEIGHBOUR: 'it returns false'. Refute it at one input. -/
def pagefilePlaysWrong : ChangeSpec := { name := "pagefilePlays", fn := fun _ => fun
  | [d1, d2] => { results := [.lit (.bool false)], args := [d1, d2] }
  | _ => none }
def PagefilePlaysWrongFalsely : Prop := pagefilePlaysRow.holds Tryz.pinned (OpenSpec.ofChange pagefilePlaysWrong)

/-- 'milepostlaw10.PoolBudget': WHATEVER THE INPUT: true; the input reads as it did. -/
def poolBudgetSpec : ChangeSpec := { name := "poolBudget", fn := fun _ => fun
  | [d1, d2, d3] => { results := [.lit (.bool true)], args := [d1, d2, d3] }
  | _ => none }
def poolBudgetRow : OpenClaim := { program := "ytkpmadahfmpeiaagreat", sum := "44b64248c366f40d6dfc291bae1d860de455386ed8e92265e2eb79cb4caf71c0", func := "milepost/milepostlaw10.PoolBudget", spec := "poolBudget", unfollowed := true, recurses := true, plainKeys := false, apart := false }
def PoolBudgetSaid : Prop := poolBudgetRow.holds Tryz.pinned (OpenSpec.ofChange poolBudgetSpec)

/-- ITS FALSE NEIGHBOUR: 'it returns false'. Refute it at one input. -/
def poolBudgetWrong : ChangeSpec := { name := "poolBudget", fn := fun _ => fun
  | [d1, d2, d3] => { results := [.lit (.bool false)], args := [d1, d2, d3] }
  | _ => none }
def PoolBudgetWrongFalsely : Prop := poolBudgetRow.holds Tryz.pinned (OpenSpec.ofChange poolBudgetWrong)

/-- 'milepostlaw10.PoolFlushes': WHATEVER THE INPUT: true; the input reads as it did. -/
def poolFlushesSpec : ChangeSpec := { name := "poolFlushes", fn := fun _ => fun
  | [d1, d2, d3] => { results := [.lit (.bool true)], args := [d1, d2, d3] }
  | _ => none }
def poolFlushesRow : OpenClaim := { program := "ytkpmadahfmpeiaagreat", sum := "44b64248c366f40d6dfc291bae1d860de455386ed8e92265e2eb79cb4caf71c0", func := "milepost/milepostlaw10.PoolFlushes", spec := "poolFlushes", unfollowed := true, recurses := true, plainKeys := false, apart := false }
def PoolFlushesSaid : Prop := poolFlushesRow.holds Tryz.pinned (OpenSpec.ofChange poolFlushesSpec)

/-- ITS FALSE NEIGHBOUR: 'it returns false'. Refute it at one input. -/
def poolFlushesWrong : ChangeSpec := { name := "poolFlushes", fn := fun _ => fun
  | [d1, d2, d3] => { results := [.lit (.bool false)], args := [d1, d2, d3] }
  | _ => none }
def PoolFlushesWrongFalsely : Prop := poolFlushesRow.holds Tryz.pinned (OpenSpec.ofChange poolFlushesWrong)

/- THE SECOND FORM. 'bulk': how many values and letters a reading holds, each counted each time it is reached (what is shared counts as often as it is met; a slice's spare places count too). A statement '..UptoSaid' is the law's where the arguments, and the package variables that the reading takes, are together of bulk at most 1048576: NARROWER than '..Said'. Prove '..Said' where nothing that the law and all that it calls make is longer than what came in: it says more and counts as full. Else prove '..UptoSaid'. A law counts once. -/
mutual
def uptoBulk {H : Type} : DataW H → Nat
  | .lit (.string bytes) => bytes.length + 1
  | .lit _ => 1
  | .nil => 1
  | .ptr d => uptoBulk d + 1
  | .slice elems spare => uptoBulkAll elems + uptoBulkAll spare + 1
  | .agg parts => uptoBulkAll parts + 1
  | .iface _ d => uptoBulk d + 1
  | .map entries => uptoBulkEntries entries + 1
  | .held _ => 1
def uptoBulkAll {H : Type} : List (DataW H) → Nat
  | [] => 0
  | d :: r => uptoBulk d + uptoBulkAll r
def uptoBulkEntries {H : Type} : List (Lit × DataW H) → Nat
  | [] => 0
  | x :: r => uptoBulkEntry x + uptoBulkEntries r
def uptoBulkEntry {H : Type} : Lit × DataW H → Nat
  | (.string bytes, d) => bytes.length + uptoBulk d + 1
  | (_, d) => uptoBulk d + 1
 end
def uptoSmall : (H : Type) → List (DataW H) → Bool := fun _ ds => decide (uptoBulkAll ds ≤ 1048576)
def OpenSpec.upto (s : _root_.Go.ChangeSpec) : _root_.Go.OpenSpec := { _root_.Go.OpenSpec.ofChange s with cond := some uptoSmall }

/-- 'milepostlaw10.PoolBack', WHERE WHAT IT READS IS OF BULK AT MOST 1048576: true; the input reads as it did. -/
def poolBackUptoRow : OpenClaim := { program := "ytkpmadahfmpeiaagreat", sum := "44b64248c366f40d6dfc291bae1d860de455386ed8e92265e2eb79cb4caf71c0", func := "milepost/milepostlaw10.PoolBack", spec := "poolBack", unfollowed := true, recurses := true, plainKeys := false, apart := false, narrowed := true }
def PoolBackUptoSaid : Prop := poolBackUptoRow.holds Tryz.pinned (OpenSpec.upto poolBackSpec)

/-- 'milepostlaw09.JournalPlays', WHERE WHAT IT READS IS OF BULK AT MOST 1048576: true; the input reads as it did. -/
def journalPlaysUptoRow : OpenClaim := { program := "ytkpmadahfmpeiaagreat", sum := "44b64248c366f40d6dfc291bae1d860de455386ed8e92265e2eb79cb4caf71c0", func := "milepost/milepostlaw09.JournalPlays", spec := "journalPlays", unfollowed := true, recurses := true, plainKeys := false, apart := false, narrowed := true }
def JournalPlaysUptoSaid : Prop := journalPlaysUptoRow.holds Tryz.pinned (OpenSpec.upto journalPlaysSpec)

/-- 'milepostlaw08.PagefilePlays', WHERE WHAT IT READS IS OF BULK AT MOST 1048576: true; the input reads as it did. -/
def pagefilePlaysUptoRow : OpenClaim := { program := "ytkpmadahfmpeiaagreat", sum := "44b64248c366f40d6dfc291bae1d860de455386ed8e92265e2eb79cb4caf71c0", func := "milepost/milepostlaw08.PagefilePlays", spec := "pagefilePlays", unfollowed := true, recurses := true, plainKeys := false, apart := false, narrowed := true }
def PagefilePlaysUptoSaid : Prop := pagefilePlaysUptoRow.holds Tryz.pinned (OpenSpec.upto pagefilePlaysSpec)

/-- 'milepostlaw10.PoolBudget', WHERE WHAT IT READS IS OF BULK AT MOST 1048576: true; the input reads as it did. -/
def poolBudgetUptoRow : OpenClaim := { program := "ytkpmadahfmpeiaagreat", sum := "44b64248c366f40d6dfc291bae1d860de455386ed8e92265e2eb79cb4caf71c0", func := "milepost/milepostlaw10.PoolBudget", spec := "poolBudget", unfollowed := true, recurses := true, plainKeys := false, apart := false, narrowed := true }
def PoolBudgetUptoSaid : Prop := poolBudgetUptoRow.holds Tryz.pinned (OpenSpec.upto poolBudgetSpec)

/-- 'milepostlaw10.PoolFlushes', WHERE WHAT IT READS IS OF BULK AT MOST 1048576: true; the input reads as it did. -/
def poolFlushesUptoRow : OpenClaim := { program := "ytkpmadahfmpeiaagreat", sum := "44b64248c366f40d6dfc291bae1d860de455386ed8e92265e2eb79cb4caf71c0", func := "milepost/milepostlaw10.PoolFlushes", spec := "poolFlushes", unfollowed := true, recurses := true, plainKeys := false, apart := false, narrowed := true }
def PoolFlushesUptoSaid : Prop := poolFlushesUptoRow.holds Tryz.pinned (OpenSpec.upto poolFlushesSpec)

end Rows
end Go.Proofs.YtkpmadahfmpeiaaGreat
