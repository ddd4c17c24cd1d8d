/-
  No cell of these rows narrows 'for every input' (looked for: loops, veiled, ifaces, maps, wideKeys, modest, calm, conditions, laid).
  DERIVED. THE GIVEN ROWS OF THIS SEAT. 4 by the template 'for every input the law returns true; each argument reads behind the call as it read before'; 0 by the template 'total and deterministic' (their statements: YtjdhmagkgoghpaaTotals.lean).
  GIVEN WITH THE SEED: the statements are not yours to turn. If you find one false, say at which input.
  Laid BY PROGRAM, IN A SANDBOX (cutbox-rows.mjs): the forced cells as the released guide's own fill.sh prints them over the translation 95076a3b9e9f8bf8… (all of the seat's roots in one cut). By AI agents, Wed Nov 11 2026. No macro, syntax, notation, axiom, sorry.
-/
import Derived.Test.YtjdhmagkgoghpaaChecked
import GoSem.Claim
import GoSem.ClaimJoined
import GoSem.ClaimMapViews
import Derived.JoinedTies
import Derived.KernelRfl
namespace Go.Proofs.Ytjdhmagkgoghpaa
/- THE CELL 'sum', in the pinned program and in every row, IS THE sha256 OF THE DUMP (.gsa) THAT YtjdhmagkgoghpaaProg.lean LOADS. Nothing in Lean hashes anything: it is a label: what it is worth is what the hold of that sum in a sandbox is worth. -/
noncomputable def Try.pinned : Pinned := { name := "ytjdhmagkgoghpaa", sum := "95076a3b9e9f8bf8aa2820ed3fea457b3d6da90598f428f8194b18242fd14512", checked := Try.checked }
namespace Rows
def none {H : Type} : Left H := { results := [], args := [] }

/-- 'docketlaw18.WatchFollows': WHATEVER THE INPUT: true; the input reads as it did. -/
def watchFollowsSpec : ChangeSpec := { name := "watchFollows", fn := fun _ => fun
  | [d1, d2, d3] => { results := [.lit (.bool true)], args := [d1, d2, d3] }
  | _ => none }
def watchFollowsRow : OpenClaim := { program := "ytjdhmagkgoghpaa", sum := "95076a3b9e9f8bf8aa2820ed3fea457b3d6da90598f428f8194b18242fd14512", func := "docket/docketlaw18.WatchFollows", spec := "watchFollows", apart := false }
def WatchFollowsSaid : Prop := watchFollowsRow.holds Try.pinned (OpenSpec.ofChange watchFollowsSpec)

/-- ITS FALSE NEIGHBOUR: 'it returns false'. Refute it at one input. -/
def watchFollowsWrong : ChangeSpec := { name := "watchFollows", fn := fun _ => fun
  | [d1, d2, d3] => { results := [.lit (.bool false)], args := [d1, d2, d3] }
  | _ => none }
def WatchFollowsWrongFalsely : Prop := watchFollowsRow.holds Try.pinned (OpenSpec.ofChange watchFollowsWrong)

/-- 'docketlaw18.WatchPlays': WHATEVER THE INPUT: true; the input reads as it did. -/
def watchPlaysSpec : ChangeSpec := { name := "watchPlays", fn := fun _ => fun
  | [d1, d2] => { results := [.lit (.bool true)], args := [d1, d2] }
  | _ => none }
def watchPlaysRow : OpenClaim := { program := "ytjdhmagkgoghpaa", sum := "95076a3b9e9f8bf8aa2820ed3fea457b3d6da90598f428f8194b18242fd14512", func := "docket/docketlaw18.WatchPlays", spec := "watchPlays", apart := false }
def WatchPlaysSaid : Prop := watchPlaysRow.holds Try.pinned (OpenSpec.ofChange watchPlaysSpec)

/-- ITS FALSE NEIGHBOUR: 'it returns false'. Refute it at one input. -/
def watchPlaysWrong : ChangeSpec := { name := "watchPlays", fn := fun _ => fun
  | [d1, d2] => { results := [.lit (.bool false)], args := [d1, d2] }
  | _ => none }
def WatchPlaysWrongFalsely : Prop := watchPlaysRow.holds Try.pinned (OpenSpec.ofChange watchPlaysWrong)

/-- 'docketlaw18.WatchNil': WHATEVER THE INPUT: true; the input reads as it did. -/
def watchNilSpec : ChangeSpec := { name := "watchNil", fn := fun _ => fun
  | [] => { results := [.lit (.bool true)], args := [] }
  | _ => none }
def watchNilRow : OpenClaim := { program := "ytjdhmagkgoghpaa", sum := "95076a3b9e9f8bf8aa2820ed3fea457b3d6da90598f428f8194b18242fd14512", func := "docket/docketlaw18.WatchNil", spec := "watchNil", apart := false }
def WatchNilSaid : Prop := watchNilRow.holds Try.pinned (OpenSpec.ofChange watchNilSpec)

/-- ITS FALSE NEIGHBOUR: 'it returns false'. Refute it at one input. -/
def watchNilWrong : ChangeSpec := { name := "watchNil", fn := fun _ => fun
  | [] => { results := [.lit (.bool false)], args := [] }
  | _ => none }
def WatchNilWrongFalsely : Prop := watchNilRow.holds Try.pinned (OpenSpec.ofChange watchNilWrong)

/-- 'docketlaw18.WatchMerges': WHATEVER THE INPUT: true; the input reads as it did. -/
def watchMergesSpec : ChangeSpec := { name := "watchMerges", fn := fun _ => fun
  | [d] => { results := [.lit (.bool true)], args := [d] }
  | _ => none }
def watchMergesRow : OpenClaim := { program := "ytjdhmagkgoghpaa", sum := "95076a3b9e9f8bf8aa2820ed3fea457b3d6da90598f428f8194b18242fd14512", func := "docket/docketlaw18.WatchMerges", spec := "watchMerges", unfollowed := true, recurses := true, apart := false }
def WatchMergesSaid : Prop := watchMergesRow.holds Try.pinned (OpenSpec.ofChange watchMergesSpec)

/-- ITS FALSE NEIGHBOUR: 'it returns false'. Refute it at one input. -/
def watchMergesWrong : ChangeSpec := { name := "watchMerges", fn := fun _ => fun
  | [d] => { results := [.lit (.bool false)], args := [d] }
  | _ => none }
def WatchMergesWrongFalsely : Prop := watchMergesRow.holds Try.pinned (OpenSpec.ofChange watchMergesWrong)

/- THE SECOND FORM. 'bulk': how many values and letters a reading holds, each counted each time it is reached (what is shared counts as often as it is met; a slice's spare places count too). A statement '..UptoSaid' is the law's where the arguments, and the package variables that the reading takes, are together of bulk at most 1048576: NARROWER than '..Said'. Prove '..Said' where nothing that the law and all that it calls make is longer than what came in: it says more and counts as full. Else prove '..UptoSaid'. A law counts once. -/
mutual
def uptoBulk {H : Type} : DataW H → Nat
  | .lit (.string bytes) => bytes.length + 1
  | .lit _ => 1
  | .nil => 1
  | .ptr d => uptoBulk d + 1
  | .slice elems spare => uptoBulkAll elems + uptoBulkAll spare + 1
  | .agg parts => uptoBulkAll parts + 1
  | .iface _ d => uptoBulk d + 1
  | .map entries => uptoBulkEntries entries + 1
  | .held _ => 1
def uptoBulkAll {H : Type} : List (DataW H) → Nat
  | [] => 0
  | d :: r => uptoBulk d + uptoBulkAll r
def uptoBulkEntries {H : Type} : List (Lit × DataW H) → Nat
  | [] => 0
  | x :: r => uptoBulkEntry x + uptoBulkEntries r
def uptoBulkEntry {H : Type} : Lit × DataW H → Nat
  | (.string bytes, d) => bytes.length + uptoBulk d + 1
  | (_, d) => uptoBulk d + 1
 end
def uptoSmall : (H : Type) → List (DataW H) → Bool := fun _ ds => decide (uptoBulkAll ds ≤ 1048576)
def OpenSpec.upto (s : _root_.Go.ChangeSpec) : _root_.Go.OpenSpec := { _root_.Go.OpenSpec.ofChange s with cond := some uptoSmall }

/-- 'docketlaw18.WatchFollows', WHERE WHAT IT READS IS OF BULK AT MOST 1048576: true; the input reads as it did. -/
def watchFollowsUptoRow : OpenClaim := { program := "ytjdhmagkgoghpaa", sum := "95076a3b9e9f8bf8aa2820ed3fea457b3d6da90598f428f8194b18242fd14512", func := "docket/docketlaw18.WatchFollows", spec := "watchFollows", apart := false, narrowed := true }
def WatchFollowsUptoSaid : Prop := watchFollowsUptoRow.holds Try.pinned (OpenSpec.upto watchFollowsSpec)

/-- 'docketlaw18.WatchPlays', WHERE WHAT IT READS IS OF BULK AT MOST 1048576: true; the input reads as it did. -/
def watchPlaysUptoRow : OpenClaim := { program := "ytjdhmagkgoghpaa", sum := "95076a3b9e9f8bf8aa2820ed3fea457b3d6da90598f428f8194b18242fd14512", func := "docket/docketlaw18.WatchPlays", spec := "watchPlays", apart := false, narrowed := true }
def WatchPlaysUptoSaid : Prop := watchPlaysUptoRow.holds Try.pinned (OpenSpec.upto watchPlaysSpec)

/-- 'docketlaw18.WatchNil', WHERE WHAT IT READS IS OF BULK AT MOST 1048576: true; the input reads as it did. -/
def watchNilUptoRow : OpenClaim := { program := "ytjdhmagkgoghpaa", sum := "95076a3b9e9f8bf8aa2820ed3fea457b3d6da90598f428f8194b18242fd14512", func := "docket/docketlaw18.WatchNil", spec := "watchNil", apart := false, narrowed := true }
def WatchNilUptoSaid : Prop := watchNilUptoRow.holds Try.pinned (OpenSpec.upto watchNilSpec)

/-- 'docketlaw18.WatchMerges', WHERE WHAT IT READS IS OF BULK AT MOST 1048576: true; the input reads as it did. -/
def watchMergesUptoRow : OpenClaim := { program := "ytjdhmagkgoghpaa", sum := "95076a3b9e9f8bf8aa2820ed3fea457b3d6da90598f428f8194b18242fd14512", func := "docket/docketlaw18.WatchMerges", spec := "watchMerges", unfollowed := true, recurses := true, apart := false, narrowed := true }
def WatchMergesUptoSaid : Prop := watchMergesUptoRow.holds Try.pinned (OpenSpec.upto watchMergesSpec)

end Rows
end Go.Proofs.Ytjdhmagkgoghpaa
