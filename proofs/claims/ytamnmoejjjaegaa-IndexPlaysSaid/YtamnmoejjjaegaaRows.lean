/-
  No cell of these rows narrows 'for every input' (looked for: loops, veiled, ifaces, maps, wideKeys, modest, calm, conditions, laid).
  DERIVED. THE GIVEN ROWS OF THIS SEAT. 5 by the template 'for every input the law returns true; each argument reads behind the call as it read before'; 0 by the template 'total and deterministic' (their statements: YtamnmoejjjaegaaTotals.lean).
  GIVEN WITH THE SEED: the statements are not yours to turn. If you find one false, say at which input.
  Laid BY PROGRAM, IN A SANDBOX (cutbox-rows.mjs): the forced cells as the released guide's own fill.sh prints them over the translation c2729e7db91ec0f4… (all of the seat's roots in one cut). By AI agents, Wed Nov 11 2026. No macro, syntax, notation, axiom, sorry.
-/
import Derived.Test.YtamnmoejjjaegaaChecked
import GoSem.Claim
import GoSem.ClaimJoined
import GoSem.ClaimMapViews
import Derived.JoinedTies
import Derived.KernelRfl
namespace Go.Proofs.Ytamnmoejjjaegaa
/- THE CELL 'sum', in the pinned program and in every row, IS THE sha256 OF THE DUMP (.gsa) THAT YtamnmoejjjaegaaProg.lean LOADS. Nothing in Lean hashes anything: it is a label: what it is worth is what the hold of that sum in a sandbox is worth. -/
noncomputable def Try.pinned : Pinned := { name := "ytamnmoejjjaegaa", sum := "c2729e7db91ec0f405205780d54560f64222107a5944bbdea5395af64941209c", checked := Try.checked }
namespace Rows
def none {H : Type} : Left H := { results := [], args := [] }

/-- 'tapearchivelaw20.IndexChecks': WHATEVER THE INPUT: true; the input reads as it did. -/
def indexChecksSpec : ChangeSpec := { name := "indexChecks", fn := fun _ => fun
  | [d1, d2] => { results := [.lit (.bool true)], args := [d1, d2] }
  | _ => none }
def indexChecksRow : OpenClaim := { program := "ytamnmoejjjaegaa", sum := "c2729e7db91ec0f405205780d54560f64222107a5944bbdea5395af64941209c", func := "tapearchive/tapearchivelaw20.IndexChecks", spec := "indexChecks", inPlace := ["slices.overlaps[string]", "slices.overlaps[int]", "slices.overlaps[*tapearchive/index.node[int]]"], unfollowed := true, recurses := true, apart := false }
def IndexChecksSaid : Prop := indexChecksRow.holds Try.pinned (OpenSpec.ofChange indexChecksSpec)

/-- ITS FALSE NEIGHBOUR: 'it returns false'. Refute it at one input. -/
def indexChecksWrong : ChangeSpec := { name := "indexChecks", fn := fun _ => fun
  | [d1, d2] => { results := [.lit (.bool false)], args := [d1, d2] }
  | _ => none }
def IndexChecksWrongFalsely : Prop := indexChecksRow.holds Try.pinned (OpenSpec.ofChange indexChecksWrong)

/-- 'tapearchivelaw20.IndexOrdered': WHATEVER THE INPUT: true; the input reads as it did. -/
def indexOrderedSpec : ChangeSpec := { name := "indexOrdered", fn := fun _ => fun
  | [d1, d2] => { results := [.lit (.bool true)], args := [d1, d2] }
  | _ => none }
def indexOrderedRow : OpenClaim := { program := "ytamnmoejjjaegaa", sum := "c2729e7db91ec0f405205780d54560f64222107a5944bbdea5395af64941209c", func := "tapearchive/tapearchivelaw20.IndexOrdered", spec := "indexOrdered", inPlace := ["slices.overlaps[string]", "slices.overlaps[int]", "slices.overlaps[*tapearchive/index.node[int]]"], unfollowed := true, recurses := true, apart := false }
def IndexOrderedSaid : Prop := indexOrderedRow.holds Try.pinned (OpenSpec.ofChange indexOrderedSpec)

/-- ITS FALSE NEIGHBOUR: 'it returns false'. Refute it at one input. -/
def indexOrderedWrong : ChangeSpec := { name := "indexOrdered", fn := fun _ => fun
  | [d1, d2] => { results := [.lit (.bool false)], args := [d1, d2] }
  | _ => none }
def IndexOrderedWrongFalsely : Prop := indexOrderedRow.holds Try.pinned (OpenSpec.ofChange indexOrderedWrong)

/-- 'tapearchivelaw20.IndexPlays': WHATEVER THE INPUT: true; the input reads as it did. -/
def indexPlaysSpec : ChangeSpec := { name := "indexPlays", fn := fun _ => fun
  | [d1, d2] => { results := [.lit (.bool true)], args := [d1, d2] }
  | _ => none }
def indexPlaysRow : OpenClaim := { program := "ytamnmoejjjaegaa", sum := "c2729e7db91ec0f405205780d54560f64222107a5944bbdea5395af64941209c", func := "tapearchive/tapearchivelaw20.IndexPlays", spec := "indexPlays", inPlace := ["slices.overlaps[string]", "slices.overlaps[int]", "slices.overlaps[*tapearchive/index.node[int]]"], unfollowed := true, recurses := true, apart := false }
def IndexPlaysSaid : Prop := indexPlaysRow.holds Try.pinned (OpenSpec.ofChange indexPlaysSpec)

/-- ITS FALSE NEIGHBOUR: 'it returns false'. Refute it at one input. -/
def indexPlaysWrong : ChangeSpec := { name := "indexPlays", fn := fun _ => fun
  | [d1, d2] => { results := [.lit (.bool false)], args := [d1, d2] }
  | _ => none }
def IndexPlaysWrongFalsely : Prop := indexPlaysRow.holds Try.pinned (OpenSpec.ofChange indexPlaysWrong)

/-- 'tapearchivelaw20.IndexClones': WHATEVER THE INPUT: true; the input reads as it did. -/
def indexClonesSpec : ChangeSpec := { name := "indexClones", fn := fun _ => fun
  | [d1, d2, d3] => { results := [.lit (.bool true)], args := [d1, d2, d3] }
  | _ => none }
def indexClonesRow : OpenClaim := { program := "ytamnmoejjjaegaa", sum := "c2729e7db91ec0f405205780d54560f64222107a5944bbdea5395af64941209c", func := "tapearchive/tapearchivelaw20.IndexClones", spec := "indexClones", inPlace := ["slices.overlaps[string]", "slices.overlaps[int]", "slices.overlaps[*tapearchive/index.node[int]]"], unfollowed := true, recurses := true, apart := false }
def IndexClonesSaid : Prop := indexClonesRow.holds Try.pinned (OpenSpec.ofChange indexClonesSpec)

/-- ITS FALSE NEIGHBOUR: 'it returns false'. Refute it at one input. -/
def indexClonesWrong : ChangeSpec := { name := "indexClones", fn := fun _ => fun
  | [d1, d2, d3] => { results := [.lit (.bool false)], args := [d1, d2, d3] }
  | _ => none }
def IndexClonesWrongFalsely : Prop := indexClonesRow.holds Try.pinned (OpenSpec.ofChange indexClonesWrong)

/-- 'tapearchivelaw20.IndexNothing': WHATEVER THE INPUT: true; the input reads as it did. -/
def indexNothingSpec : ChangeSpec := { name := "indexNothing", fn := fun _ => fun
  | [d1, d2] => { results := [.lit (.bool true)], args := [d1, d2] }
  | _ => none }
def indexNothingRow : OpenClaim := { program := "ytamnmoejjjaegaa", sum := "c2729e7db91ec0f405205780d54560f64222107a5944bbdea5395af64941209c", func := "tapearchive/tapearchivelaw20.IndexNothing", spec := "indexNothing", inPlace := ["slices.overlaps[string]", "slices.overlaps[int]", "slices.overlaps[*tapearchive/index.node[int]]"], unfollowed := true, recurses := true, apart := false }
def IndexNothingSaid : Prop := indexNothingRow.holds Try.pinned (OpenSpec.ofChange indexNothingSpec)

/-- ITS FALSE NEIGHBOUR: 'it returns false'. Refute it at one input. -/
def indexNothingWrong : ChangeSpec := { name := "indexNothing", fn := fun _ => fun
  | [d1, d2] => { results := [.lit (.bool false)], args := [d1, d2] }
  | _ => none }
def IndexNothingWrongFalsely : Prop := indexNothingRow.holds Try.pinned (OpenSpec.ofChange indexNothingWrong)

/- THE SECOND FORM. 'bulk': how many values and letters a reading holds, each counted each time it is reached (what is shared counts as often as it is met; a slice's spare places count too). A statement '..UptoSaid' is the law's where the arguments, and the package variables that the reading takes, are together of bulk at most 1048576: NARROWER than '..Said'. Prove '..Said' where nothing that the law and all that it calls make is longer than what came in: it says more and counts as full. Else prove '..UptoSaid'. A law counts once. -/
mutual
def uptoBulk {H : Type} : DataW H → Nat
  | .lit (.string bytes) => bytes.length + 1
  | .lit _ => 1
  | .nil => 1
  | .ptr d => uptoBulk d + 1
  | .slice elems spare => uptoBulkAll elems + uptoBulkAll spare + 1
  | .agg parts => uptoBulkAll parts + 1
  | .iface _ d => uptoBulk d + 1
  | .map entries => uptoBulkEntries entries + 1
  | .held _ => 1
def uptoBulkAll {H : Type} : List (DataW H) → Nat
  | [] => 0
  | d :: r => uptoBulk d + uptoBulkAll r
def uptoBulkEntries {H : Type} : List (Lit × DataW H) → Nat
  | [] => 0
  | x :: r => uptoBulkEntry x + uptoBulkEntries r
def uptoBulkEntry {H : Type} : Lit × DataW H → Nat
  | (.string bytes, d) => bytes.length + uptoBulk d + 1
  | (_, d) => uptoBulk d + 1
 end
def uptoSmall : (H : Type) → List (DataW H) → Bool := fun _ ds => decide (uptoBulkAll ds ≤ 1048576)
def OpenSpec.upto (s : _root_.Go.ChangeSpec) : _root_.Go.OpenSpec := { _root_.Go.OpenSpec.ofChange s with cond := some uptoSmall }

/-- 'tapearchivelaw20.IndexChecks', WHERE WHAT IT READS IS OF BULK AT MOST 1048576: true; the input reads as it did. -/
def indexChecksUptoRow : OpenClaim := { program := "ytamnmoejjjaegaa", sum := "c2729e7db91ec0f405205780d54560f64222107a5944bbdea5395af64941209c", func := "tapearchive/tapearchivelaw20.IndexChecks", spec := "indexChecks", inPlace := ["slices.overlaps[string]", "slices.overlaps[int]", "slices.overlaps[*tapearchive/index.node[int]]"], unfollowed := true, recurses := true, apart := false, narrowed := true }
def IndexChecksUptoSaid : Prop := indexChecksUptoRow.holds Try.pinned (OpenSpec.upto indexChecksSpec)

/-- 'tapearchivelaw20.IndexOrdered', WHERE WHAT IT READS IS OF BULK AT MOST 1048576: true; the input reads as it did. -/
def indexOrderedUptoRow : OpenClaim := { program := "ytamnmoejjjaegaa", sum := "c2729e7db91ec0f405205780d54560f64222107a5944bbdea5395af64941209c", func := "tapearchive/tapearchivelaw20.IndexOrdered", spec := "indexOrdered", inPlace := ["slices.overlaps[string]", "slices.overlaps[int]", "slices.overlaps[*tapearchive/index.node[int]]"], unfollowed := true, recurses := true, apart := false, narrowed := true }
def IndexOrderedUptoSaid : Prop := indexOrderedUptoRow.holds Try.pinned (OpenSpec.upto indexOrderedSpec)

/-- 'tapearchivelaw20.IndexPlays', WHERE WHAT IT READS IS OF BULK AT MOST 1048576: true; the input reads as it did. -/
def indexPlaysUptoRow : OpenClaim := { program := "ytamnmoejjjaegaa", sum := "c2729e7db91ec0f405205780d54560f64222107a5944bbdea5395af64941209c", func := "tapearchive/tapearchivelaw20.IndexPlays", spec := "indexPlays", inPlace := ["slices.overlaps[string]", "slices.overlaps[int]", "slices.overlaps[*tapearchive/index.node[int]]"], unfollowed := true, recurses := true, apart := false, narrowed := true }
def IndexPlaysUptoSaid : Prop := indexPlaysUptoRow.holds Try.pinned (OpenSpec.upto indexPlaysSpec)

/-- 'tapearchivelaw20.IndexClones', WHERE WHAT IT READS IS OF BULK AT MOST 1048576: true; the input reads as it did. -/
def indexClonesUptoRow : OpenClaim := { program := "ytamnmoejjjaegaa", sum := "c2729e7db91ec0f405205780d54560f64222107a5944bbdea5395af64941209c", func := "tapearchive/tapearchivelaw20.IndexClones", spec := "indexClones", inPlace := ["slices.overlaps[string]", "slices.overlaps[int]", "slices.overlaps[*tapearchive/index.node[int]]"], unfollowed := true, recurses := true, apart := false, narrowed := true }
def IndexClonesUptoSaid : Prop := indexClonesUptoRow.holds Try.pinned (OpenSpec.upto indexClonesSpec)

/-- 'tapearchivelaw20.IndexNothing', WHERE WHAT IT READS IS OF BULK AT MOST 1048576: true; the input reads as it did. -/
def indexNothingUptoRow : OpenClaim := { program := "ytamnmoejjjaegaa", sum := "c2729e7db91ec0f405205780d54560f64222107a5944bbdea5395af64941209c", func := "tapearchive/tapearchivelaw20.IndexNothing", spec := "indexNothing", inPlace := ["slices.overlaps[string]", "slices.overlaps[int]", "slices.overlaps[*tapearchive/index.node[int]]"], unfollowed := true, recurses := true, apart := false, narrowed := true }
def IndexNothingUptoSaid : Prop := indexNothingUptoRow.holds Try.pinned (OpenSpec.upto indexNothingSpec)

end Rows
end Go.Proofs.Ytamnmoejjjaegaa
