/-
  No cell of these rows narrows 'for every input' (looked for: loops, veiled, ifaces, maps, wideKeys, modest, calm, conditions, laid).
  DERIVED. THE GIVEN ROWS OF THIS SEAT. 8 by the template 'for every input the law returns true; each argument reads behind the call as it read before'; 0 by the template 'total and deterministic' (their statements: YtfgkmimhibpceaaTotals.lean).
  GIVEN WITH THE SEED: the statements are not yours to turn. If you find one false, say at which input.
  Laid BY PROGRAM, IN A SANDBOX (cutbox-rows.mjs): the forced cells as the released guide's own fill.sh prints them over the translation 14d9da3a3e48f274… (all of the seat's roots in one cut). By AI agents, Wed Nov 11 2026. No macro, syntax, notation, axiom, sorry.
-/
import Derived.Test.YtfgkmimhibpceaaChecked
import GoSem.Claim
import GoSem.ClaimJoined
import GoSem.ClaimMapViews
import Derived.JoinedTies
import Derived.KernelRfl
namespace Go.Proofs.Ytfgkmimhibpceaa
/- THE CELL 'sum', in the pinned program and in every row, IS THE sha256 OF THE DUMP (.gsa) THAT YtfgkmimhibpceaaProg.lean LOADS. Nothing in Lean hashes anything: it is a label: what it is worth is what the hold of that sum in a sandbox is worth. -/
noncomputable def Try.pinned : Pinned := { name := "ytfgkmimhibpceaa", sum := "14d9da3a3e48f274a27aa263d76ade4de6b464dd45b220204c63937929bacabd", checked := Try.checked }
namespace Rows
def none {H : Type} : Left H := { results := [], args := [] }

/-- 'milepostlaw19.HubAdds': WHATEVER THE INPUT: true; the input reads as it did. -/
def hubAddsSpec : ChangeSpec := { name := "hubAdds", fn := fun _ => fun
  | [d1, d2, d3] => { results := [.lit (.bool true)], args := [d1, d2, d3] }
  | _ => none }
def hubAddsRow : OpenClaim := { program := "ytfgkmimhibpceaa", sum := "14d9da3a3e48f274a27aa263d76ade4de6b464dd45b220204c63937929bacabd", func := "milepost/milepostlaw19.HubAdds", spec := "hubAdds", inPlace := ["math/bits.Add64"], unfollowed := true, recurses := true, apart := false }
def HubAddsSaid : Prop := hubAddsRow.holds Try.pinned (OpenSpec.ofChange hubAddsSpec)

/-- ITS FALSE NEIGHBOUR: 'it returns false'. Refute it at one input. -/
def hubAddsWrong : ChangeSpec := { name := "hubAdds", fn := fun _ => fun
  | [d1, d2, d3] => { results := [.lit (.bool false)], args := [d1, d2, d3] }
  | _ => none }
def HubAddsWrongFalsely : Prop := hubAddsRow.holds Try.pinned (OpenSpec.ofChange hubAddsWrong)

/-- 'milepostlaw19.HubPrunes': WHATEVER THE INPUT: true; the input reads as it did. -/
def hubPrunesSpec : ChangeSpec := { name := "hubPrunes", fn := fun _ => fun
  | [d1, d2] => { results := [.lit (.bool true)], args := [d1, d2] }
  | _ => none }
def hubPrunesRow : OpenClaim := { program := "ytfgkmimhibpceaa", sum := "14d9da3a3e48f274a27aa263d76ade4de6b464dd45b220204c63937929bacabd", func := "milepost/milepostlaw19.HubPrunes", spec := "hubPrunes", inPlace := ["math/bits.Add64"], unfollowed := true, recurses := true, apart := false }
def HubPrunesSaid : Prop := hubPrunesRow.holds Try.pinned (OpenSpec.ofChange hubPrunesSpec)

/-- ITS FALSE NEIGHBOUR: 'it returns false'. Refute it at one input. -/
def hubPrunesWrong : ChangeSpec := { name := "hubPrunes", fn := fun _ => fun
  | [d1, d2] => { results := [.lit (.bool false)], args := [d1, d2] }
  | _ => none }
def HubPrunesWrongFalsely : Prop := hubPrunesRow.holds Try.pinned (OpenSpec.ofChange hubPrunesWrong)

/-- 'milepostlaw19.HubNearest': WHATEVER THE INPUT: true; the input reads as it did. -/
def hubNearestSpec : ChangeSpec := { name := "hubNearest", fn := fun _ => fun
  | [d1, d2, d3] => { results := [.lit (.bool true)], args := [d1, d2, d3] }
  | _ => none }
def hubNearestRow : OpenClaim := { program := "ytfgkmimhibpceaa", sum := "14d9da3a3e48f274a27aa263d76ade4de6b464dd45b220204c63937929bacabd", func := "milepost/milepostlaw19.HubNearest", spec := "hubNearest", inPlace := ["math/bits.Add64"], unfollowed := true, recurses := true, apart := false }
def HubNearestSaid : Prop := hubNearestRow.holds Try.pinned (OpenSpec.ofChange hubNearestSpec)

/-- ITS FALSE NEIGHBOUR: 'it returns false'. Refute it at one input. -/
def hubNearestWrong : ChangeSpec := { name := "hubNearest", fn := fun _ => fun
  | [d1, d2, d3] => { results := [.lit (.bool false)], args := [d1, d2, d3] }
  | _ => none }
def HubNearestWrongFalsely : Prop := hubNearestRow.holds Try.pinned (OpenSpec.ofChange hubNearestWrong)

/-- 'milepostlaw19.HubNeedless': WHATEVER THE INPUT: true; the input reads as it did. -/
def hubNeedlessSpec : ChangeSpec := { name := "hubNeedless", fn := fun _ => fun
  | [d1, d2] => { results := [.lit (.bool true)], args := [d1, d2] }
  | _ => none }
def hubNeedlessRow : OpenClaim := { program := "ytfgkmimhibpceaa", sum := "14d9da3a3e48f274a27aa263d76ade4de6b464dd45b220204c63937929bacabd", func := "milepost/milepostlaw19.HubNeedless", spec := "hubNeedless", inPlace := ["math/bits.Add64"], unfollowed := true, recurses := true, apart := false }
def HubNeedlessSaid : Prop := hubNeedlessRow.holds Try.pinned (OpenSpec.ofChange hubNeedlessSpec)

/-- ITS FALSE NEIGHBOUR: 'it returns false'. Refute it at one input. -/
def hubNeedlessWrong : ChangeSpec := { name := "hubNeedless", fn := fun _ => fun
  | [d1, d2] => { results := [.lit (.bool false)], args := [d1, d2] }
  | _ => none }
def HubNeedlessWrongFalsely : Prop := hubNeedlessRow.holds Try.pinned (OpenSpec.ofChange hubNeedlessWrong)

/-- 'milepostlaw19.HubAlone': WHATEVER THE INPUT: true; the input reads as it did. -/
def hubAloneSpec : ChangeSpec := { name := "hubAlone", fn := fun _ => fun
  | [d1, d2, d3] => { results := [.lit (.bool true)], args := [d1, d2, d3] }
  | _ => none }
def hubAloneRow : OpenClaim := { program := "ytfgkmimhibpceaa", sum := "14d9da3a3e48f274a27aa263d76ade4de6b464dd45b220204c63937929bacabd", func := "milepost/milepostlaw19.HubAlone", spec := "hubAlone", inPlace := ["math/bits.Add64"], unfollowed := true, recurses := true, apart := false }
def HubAloneSaid : Prop := hubAloneRow.holds Try.pinned (OpenSpec.ofChange hubAloneSpec)

/-- ITS FALSE NEIGHBOUR: 'it returns false'. Refute it at one input. -/
def hubAloneWrong : ChangeSpec := { name := "hubAlone", fn := fun _ => fun
  | [d1, d2, d3] => { results := [.lit (.bool false)], args := [d1, d2, d3] }
  | _ => none }
def HubAloneWrongFalsely : Prop := hubAloneRow.holds Try.pinned (OpenSpec.ofChange hubAloneWrong)

/-- 'milepostlaw19.HubRises': WHATEVER THE INPUT: true; the input reads as it did. -/
def hubRisesSpec : ChangeSpec := { name := "hubRises", fn := fun _ => fun
  | [d] => { results := [.lit (.bool true)], args := [d] }
  | _ => none }
def hubRisesRow : OpenClaim := { program := "ytfgkmimhibpceaa", sum := "14d9da3a3e48f274a27aa263d76ade4de6b464dd45b220204c63937929bacabd", func := "milepost/milepostlaw19.HubRises", spec := "hubRises", inPlace := ["math/bits.Add64"], unfollowed := true, recurses := true, apart := false }
def HubRisesSaid : Prop := hubRisesRow.holds Try.pinned (OpenSpec.ofChange hubRisesSpec)

/-- ITS FALSE NEIGHBOUR: 'it returns false'. Refute it at one input. -/
def hubRisesWrong : ChangeSpec := { name := "hubRises", fn := fun _ => fun
  | [d] => { results := [.lit (.bool false)], args := [d] }
  | _ => none }
def HubRisesWrongFalsely : Prop := hubRisesRow.holds Try.pinned (OpenSpec.ofChange hubRisesWrong)

/-- 'milepostlaw19.HubOrder': WHATEVER THE INPUT: true; the input reads as it did. -/
def hubOrderSpec : ChangeSpec := { name := "hubOrder", fn := fun _ => fun
  | [d1, d2, d3] => { results := [.lit (.bool true)], args := [d1, d2, d3] }
  | _ => none }
def hubOrderRow : OpenClaim := { program := "ytfgkmimhibpceaa", sum := "14d9da3a3e48f274a27aa263d76ade4de6b464dd45b220204c63937929bacabd", func := "milepost/milepostlaw19.HubOrder", spec := "hubOrder", inPlace := ["math/bits.Add64"], unfollowed := true, recurses := true, apart := false }
def HubOrderSaid : Prop := hubOrderRow.holds Try.pinned (OpenSpec.ofChange hubOrderSpec)

/-- ITS FALSE NEIGHBOUR: 'it returns false'. Refute it at one input. -/
def hubOrderWrong : ChangeSpec := { name := "hubOrder", fn := fun _ => fun
  | [d1, d2, d3] => { results := [.lit (.bool false)], args := [d1, d2, d3] }
  | _ => none }
def HubOrderWrongFalsely : Prop := hubOrderRow.holds Try.pinned (OpenSpec.ofChange hubOrderWrong)

/-- 'milepostlaw19.HubAgain': WHATEVER THE INPUT: true; the input reads as it did. -/
def hubAgainSpec : ChangeSpec := { name := "hubAgain", fn := fun _ => fun
  | [d1, d2] => { results := [.lit (.bool true)], args := [d1, d2] }
  | _ => none }
def hubAgainRow : OpenClaim := { program := "ytfgkmimhibpceaa", sum := "14d9da3a3e48f274a27aa263d76ade4de6b464dd45b220204c63937929bacabd", func := "milepost/milepostlaw19.HubAgain", spec := "hubAgain", inPlace := ["math/bits.Add64"], unfollowed := true, recurses := true, apart := false }
def HubAgainSaid : Prop := hubAgainRow.holds Try.pinned (OpenSpec.ofChange hubAgainSpec)

/-- ITS FALSE NEIGHBOUR: 'it returns false'. Refute it at one input. -/
def hubAgainWrong : ChangeSpec := { name := "hubAgain", fn := fun _ => fun
  | [d1, d2] => { results := [.lit (.bool false)], args := [d1, d2] }
  | _ => none }
def HubAgainWrongFalsely : Prop := hubAgainRow.holds Try.pinned (OpenSpec.ofChange hubAgainWrong)

/- THE SECOND FORM. 'bulk': how many values and letters a reading holds, each counted each time it is reached (what is shared counts as often as it is met; a slice's spare places count too). A statement '..UptoSaid' is the law's where the arguments, and the package variables that the reading takes, are together of bulk at most 1048576: NARROWER than '..Said'. Prove '..Said' where nothing that the law and all that it calls make is longer than what came in: it says more and counts as full. Else prove '..UptoSaid'. A law counts once. -/
mutual
def uptoBulk {H : Type} : DataW H → Nat
  | .lit (.string bytes) => bytes.length + 1
  | .lit _ => 1
  | .nil => 1
  | .ptr d => uptoBulk d + 1
  | .slice elems spare => uptoBulkAll elems + uptoBulkAll spare + 1
  | .agg parts => uptoBulkAll parts + 1
  | .iface _ d => uptoBulk d + 1
  | .map entries => uptoBulkEntries entries + 1
  | .held _ => 1
def uptoBulkAll {H : Type} : List (DataW H) → Nat
  | [] => 0
  | d :: r => uptoBulk d + uptoBulkAll r
def uptoBulkEntries {H : Type} : List (Lit × DataW H) → Nat
  | [] => 0
  | x :: r => uptoBulkEntry x + uptoBulkEntries r
def uptoBulkEntry {H : Type} : Lit × DataW H → Nat
  | (.string bytes, d) => bytes.length + uptoBulk d + 1
  | (_, d) => uptoBulk d + 1
 end
def uptoSmall : (H : Type) → List (DataW H) → Bool := fun _ ds => decide (uptoBulkAll ds ≤ 1048576)
def OpenSpec.upto (s : _root_.Go.ChangeSpec) : _root_.Go.OpenSpec := { _root_.Go.OpenSpec.ofChange s with cond := some uptoSmall }

/-- 'milepostlaw19.HubAdds', WHERE WHAT IT READS IS OF BULK AT MOST 1048576: true; the input reads as it did. -/
def hubAddsUptoRow : OpenClaim := { program := "ytfgkmimhibpceaa", sum := "14d9da3a3e48f274a27aa263d76ade4de6b464dd45b220204c63937929bacabd", func := "milepost/milepostlaw19.HubAdds", spec := "hubAdds", inPlace := ["math/bits.Add64"], unfollowed := true, recurses := true, apart := false, narrowed := true }
def HubAddsUptoSaid : Prop := hubAddsUptoRow.holds Try.pinned (OpenSpec.upto hubAddsSpec)

/-- 'milepostlaw19.HubPrunes', WHERE WHAT IT READS IS OF BULK AT MOST 1048576: true; the input reads as it did. -/
def hubPrunesUptoRow : OpenClaim := { program := "ytfgkmimhibpceaa", sum := "14d9da3a3e48f274a27aa263d76ade4de6b464dd45b220204c63937929bacabd", func := "milepost/milepostlaw19.HubPrunes", spec := "hubPrunes", inPlace := ["math/bits.Add64"], unfollowed := true, recurses := true, apart := false, narrowed := true }
def HubPrunesUptoSaid : Prop := hubPrunesUptoRow.holds Try.pinned (OpenSpec.upto hubPrunesSpec)

/-- 'milepostlaw19.HubNearest', WHERE WHAT IT READS IS OF BULK AT MOST 1048576: true; the input reads as it did. -/
def hubNearestUptoRow : OpenClaim := { program := "ytfgkmimhibpceaa", sum := "14d9da3a3e48f274a27aa263d76ade4de6b464dd45b220204c63937929bacabd", func := "milepost/milepostlaw19.HubNearest", spec := "hubNearest", inPlace := ["math/bits.Add64"], unfollowed := true, recurses := true, apart := false, narrowed := true }
def HubNearestUptoSaid : Prop := hubNearestUptoRow.holds Try.pinned (OpenSpec.upto hubNearestSpec)

/-- 'milepostlaw19.HubNeedless', WHERE WHAT IT READS IS OF BULK AT MOST 1048576: true; the input reads as it did. -/
def hubNeedlessUptoRow : OpenClaim := { program := "ytfgkmimhibpceaa", sum := "14d9da3a3e48f274a27aa263d76ade4de6b464dd45b220204c63937929bacabd", func := "milepost/milepostlaw19.HubNeedless", spec := "hubNeedless", inPlace := ["math/bits.Add64"], unfollowed := true, recurses := true, apart := false, narrowed := true }
def HubNeedlessUptoSaid : Prop := hubNeedlessUptoRow.holds Try.pinned (OpenSpec.upto hubNeedlessSpec)

/-- 'milepostlaw19.HubAlone', WHERE WHAT IT READS IS OF BULK AT MOST 1048576: true; the input reads as it did. -/
def hubAloneUptoRow : OpenClaim := { program := "ytfgkmimhibpceaa", sum := "14d9da3a3e48f274a27aa263d76ade4de6b464dd45b220204c63937929bacabd", func := "milepost/milepostlaw19.HubAlone", spec := "hubAlone", inPlace := ["math/bits.Add64"], unfollowed := true, recurses := true, apart := false, narrowed := true }
def HubAloneUptoSaid : Prop := hubAloneUptoRow.holds Try.pinned (OpenSpec.upto hubAloneSpec)

/-- 'milepostlaw19.HubRises', WHERE WHAT IT READS IS OF BULK AT MOST 1048576: true; the input reads as it did. -/
def hubRisesUptoRow : OpenClaim := { program := "ytfgkmimhibpceaa", sum := "14d9da3a3e48f274a27aa263d76ade4de6b464dd45b220204c63937929bacabd", func := "milepost/milepostlaw19.HubRises", spec := "hubRises", inPlace := ["math/bits.Add64"], unfollowed := true, recurses := true, apart := false, narrowed := true }
def HubRisesUptoSaid : Prop := hubRisesUptoRow.holds Try.pinned (OpenSpec.upto hubRisesSpec)

/-- 'milepostlaw19.HubOrder', WHERE WHAT IT READS IS OF BULK AT MOST 1048576: true; the input reads as it did. -/
def hubOrderUptoRow : OpenClaim := { program := "ytfgkmimhibpceaa", sum := "14d9da3a3e48f274a27aa263d76ade4de6b464dd45b220204c63937929bacabd", func := "milepost/milepostlaw19.HubOrder", spec := "hubOrder", inPlace := ["math/bits.Add64"], unfollowed := true, recurses := true, apart := false, narrowed := true }
def HubOrderUptoSaid : Prop := hubOrderUptoRow.holds Try.pinned (OpenSpec.upto hubOrderSpec)

/-- 'milepostlaw19.HubAgain', WHERE WHAT IT READS IS OF BULK AT MOST 1048576: true; the input reads as it did. -/
def hubAgainUptoRow : OpenClaim := { program := "ytfgkmimhibpceaa", sum := "14d9da3a3e48f274a27aa263d76ade4de6b464dd45b220204c63937929bacabd", func := "milepost/milepostlaw19.HubAgain", spec := "hubAgain", inPlace := ["math/bits.Add64"], unfollowed := true, recurses := true, apart := false, narrowed := true }
def HubAgainUptoSaid : Prop := hubAgainUptoRow.holds Try.pinned (OpenSpec.upto hubAgainSpec)

end Rows
end Go.Proofs.Ytfgkmimhibpceaa
