/-
  No cell of these rows narrows 'for every input' (looked for: loops, veiled, ifaces, maps, wideKeys, modest, calm, conditions, laid).
  DERIVED. THE GIVEN ROWS OF THIS SEAT. 5 by the template 'for every input the law returns true; each argument reads behind the call as it read before'; 0 by the template 'total and deterministic' (their statements: YtagpkejbbmpcgaaTotals.lean).
  GIVEN WITH THE SEED: the statements are not yours to turn. If you find one false, say at which input.
  Laid BY PROGRAM, IN A SANDBOX (cutbox-rows.mjs): the forced cells as the released guide's own fill.sh prints them over the translation e63e44e46d4e5d65… (all of the seat's roots in one cut). By AI agents, Wed Nov 11 2026. No macro, syntax, notation, axiom, sorry.
-/
import Derived.Test.YtagpkejbbmpcgaaChecked
import GoSem.Claim
import GoSem.ClaimJoined
import GoSem.ClaimMapViews
import Derived.JoinedTies
import Derived.KernelRfl
namespace Go.Proofs.Ytagpkejbbmpcgaa
/- THE CELL 'sum', in the pinned program and in every row, IS THE sha256 OF THE DUMP (.gsa) THAT YtagpkejbbmpcgaaProg.lean LOADS. Nothing in Lean hashes anything: it is a label: what it is worth is what the hold of that sum in a sandbox is worth. -/
noncomputable def Try.pinned : Pinned := { name := "ytagpkejbbmpcgaa", sum := "e63e44e46d4e5d659364a427c87c2b4d1d8da1979a32cba3794262aa05b7f1d2", checked := Try.checked }
namespace Rows
def none {H : Type} : Left H := { results := [], args := [] }

/-- 'tagcachelaw21.EpochNested': WHATEVER THE INPUT: true; the input reads as it did. -/
def epochNestedSpec : ChangeSpec := { name := "epochNested", fn := fun _ => fun
  | [d1, d2] => { results := [.lit (.bool true)], args := [d1, d2] }
  | _ => none }
def epochNestedRow : OpenClaim := { program := "ytagpkejbbmpcgaa", sum := "e63e44e46d4e5d659364a427c87c2b4d1d8da1979a32cba3794262aa05b7f1d2", func := "tagcache/tagcachelaw21.EpochNested", spec := "epochNested", inPlace := ["slices.overlaps[*tagcache/trie.node]"], unfollowed := true, recurses := true, apart := false }
def EpochNestedSaid : Prop := epochNestedRow.holds Try.pinned (OpenSpec.ofChange epochNestedSpec)

/-- ITS FALSE NEIGHBOUR: 'it returns false'. Refute it at one input. -/
def epochNestedWrong : ChangeSpec := { name := "epochNested", fn := fun _ => fun
  | [d1, d2] => { results := [.lit (.bool false)], args := [d1, d2] }
  | _ => none }
def EpochNestedWrongFalsely : Prop := epochNestedRow.holds Try.pinned (OpenSpec.ofChange epochNestedWrong)

/-- 'tagcachelaw21.EpochHolds': WHATEVER THE INPUT: true; the input reads as it did. -/
def epochHoldsSpec : ChangeSpec := { name := "epochHolds", fn := fun _ => fun
  | [d1, d2] => { results := [.lit (.bool true)], args := [d1, d2] }
  | _ => none }
def epochHoldsRow : OpenClaim := { program := "ytagpkejbbmpcgaa", sum := "e63e44e46d4e5d659364a427c87c2b4d1d8da1979a32cba3794262aa05b7f1d2", func := "tagcache/tagcachelaw21.EpochHolds", spec := "epochHolds", inPlace := ["slices.overlaps[*tagcache/trie.node]"], unfollowed := true, recurses := true, apart := false }
def EpochHoldsSaid : Prop := epochHoldsRow.holds Try.pinned (OpenSpec.ofChange epochHoldsSpec)

/-- ITS FALSE NEIGHBOUR: 'it returns false'. Refute it at one input. -/
def epochHoldsWrong : ChangeSpec := { name := "epochHolds", fn := fun _ => fun
  | [d1, d2] => { results := [.lit (.bool false)], args := [d1, d2] }
  | _ => none }
def EpochHoldsWrongFalsely : Prop := epochHoldsRow.holds Try.pinned (OpenSpec.ofChange epochHoldsWrong)

/-- 'tagcachelaw21.EpochPlays': WHATEVER THE INPUT: true; the input reads as it did. -/
def epochPlaysSpec : ChangeSpec := { name := "epochPlays", fn := fun _ => fun
  | [d] => { results := [.lit (.bool true)], args := [d] }
  | _ => none }
def epochPlaysRow : OpenClaim := { program := "ytagpkejbbmpcgaa", sum := "e63e44e46d4e5d659364a427c87c2b4d1d8da1979a32cba3794262aa05b7f1d2", func := "tagcache/tagcachelaw21.EpochPlays", spec := "epochPlays", inPlace := ["slices.overlaps[*tagcache/trie.node]"], unfollowed := true, recurses := true, apart := false }
def EpochPlaysSaid : Prop := epochPlaysRow.holds Try.pinned (OpenSpec.ofChange epochPlaysSpec)

/-- ITS FALSE NEIGHBOUR: 'it returns false'. Refute it at one input. -/
def epochPlaysWrong : ChangeSpec := { name := "epochPlays", fn := fun _ => fun
  | [d] => { results := [.lit (.bool false)], args := [d] }
  | _ => none }
def EpochPlaysWrongFalsely : Prop := epochPlaysRow.holds Try.pinned (OpenSpec.ofChange epochPlaysWrong)

/-- 'tagcachelaw21.EpochRestores': WHATEVER THE INPUT: true; the input reads as it did. -/
def epochRestoresSpec : ChangeSpec := { name := "epochRestores", fn := fun _ => fun
  | [d1, d2, d3, d4] => { results := [.lit (.bool true)], args := [d1, d2, d3, d4] }
  | _ => none }
def epochRestoresRow : OpenClaim := { program := "ytagpkejbbmpcgaa", sum := "e63e44e46d4e5d659364a427c87c2b4d1d8da1979a32cba3794262aa05b7f1d2", func := "tagcache/tagcachelaw21.EpochRestores", spec := "epochRestores", inPlace := ["slices.overlaps[*tagcache/trie.node]"], unfollowed := true, recurses := true, apart := false }
def EpochRestoresSaid : Prop := epochRestoresRow.holds Try.pinned (OpenSpec.ofChange epochRestoresSpec)

/-- ITS FALSE NEIGHBOUR: 'it returns false'. Refute it at one input. -/
def epochRestoresWrong : ChangeSpec := { name := "epochRestores", fn := fun _ => fun
  | [d1, d2, d3, d4] => { results := [.lit (.bool false)], args := [d1, d2, d3, d4] }
  | _ => none }
def EpochRestoresWrongFalsely : Prop := epochRestoresRow.holds Try.pinned (OpenSpec.ofChange epochRestoresWrong)

/-- 'tagcachelaw21.EpochNil': WHATEVER THE INPUT: true; the input reads as it did. -/
def epochNilSpec : ChangeSpec := { name := "epochNil", fn := fun _ => fun
  | [d1, d2] => { results := [.lit (.bool true)], args := [d1, d2] }
  | _ => none }
def epochNilRow : OpenClaim := { program := "ytagpkejbbmpcgaa", sum := "e63e44e46d4e5d659364a427c87c2b4d1d8da1979a32cba3794262aa05b7f1d2", func := "tagcache/tagcachelaw21.EpochNil", spec := "epochNil", inPlace := ["slices.overlaps[*tagcache/trie.node]"], unfollowed := true, recurses := true, apart := false }
def EpochNilSaid : Prop := epochNilRow.holds Try.pinned (OpenSpec.ofChange epochNilSpec)

/-- ITS FALSE NEIGHBOUR: 'it returns false'. Refute it at one input. -/
def epochNilWrong : ChangeSpec := { name := "epochNil", fn := fun _ => fun
  | [d1, d2] => { results := [.lit (.bool false)], args := [d1, d2] }
  | _ => none }
def EpochNilWrongFalsely : Prop := epochNilRow.holds Try.pinned (OpenSpec.ofChange epochNilWrong)

/- THE SECOND FORM. 'bulk': how many values and letters a reading holds, each counted each time it is reached (what is shared counts as often as it is met; a slice's spare places count too). A statement '..UptoSaid' is the law's where the arguments, and the package variables that the reading takes, are together of bulk at most 1048576: NARROWER than '..Said'. Prove '..Said' where nothing that the law and all that it calls make is longer than what came in: it says more and counts as full. Else prove '..UptoSaid'. A law counts once. -/
mutual
def uptoBulk {H : Type} : DataW H → Nat
  | .lit (.string bytes) => bytes.length + 1
  | .lit _ => 1
  | .nil => 1
  | .ptr d => uptoBulk d + 1
  | .slice elems spare => uptoBulkAll elems + uptoBulkAll spare + 1
  | .agg parts => uptoBulkAll parts + 1
  | .iface _ d => uptoBulk d + 1
  | .map entries => uptoBulkEntries entries + 1
  | .held _ => 1
def uptoBulkAll {H : Type} : List (DataW H) → Nat
  | [] => 0
  | d :: r => uptoBulk d + uptoBulkAll r
def uptoBulkEntries {H : Type} : List (Lit × DataW H) → Nat
  | [] => 0
  | x :: r => uptoBulkEntry x + uptoBulkEntries r
def uptoBulkEntry {H : Type} : Lit × DataW H → Nat
  | (.string bytes, d) => bytes.length + uptoBulk d + 1
  | (_, d) => uptoBulk d + 1
 end
def uptoSmall : (H : Type) → List (DataW H) → Bool := fun _ ds => decide (uptoBulkAll ds ≤ 1048576)
def OpenSpec.upto (s : _root_.Go.ChangeSpec) : _root_.Go.OpenSpec := { _root_.Go.OpenSpec.ofChange s with cond := some uptoSmall }

/-- 'tagcachelaw21.EpochNested', WHERE WHAT IT READS IS OF BULK AT MOST 1048576: true; the input reads as it did. -/
def epochNestedUptoRow : OpenClaim := { program := "ytagpkejbbmpcgaa", sum := "e63e44e46d4e5d659364a427c87c2b4d1d8da1979a32cba3794262aa05b7f1d2", func := "tagcache/tagcachelaw21.EpochNested", spec := "epochNested", inPlace := ["slices.overlaps[*tagcache/trie.node]"], unfollowed := true, recurses := true, apart := false, narrowed := true }
def EpochNestedUptoSaid : Prop := epochNestedUptoRow.holds Try.pinned (OpenSpec.upto epochNestedSpec)

/-- 'tagcachelaw21.EpochHolds', WHERE WHAT IT READS IS OF BULK AT MOST 1048576: true; the input reads as it did. -/
def epochHoldsUptoRow : OpenClaim := { program := "ytagpkejbbmpcgaa", sum := "e63e44e46d4e5d659364a427c87c2b4d1d8da1979a32cba3794262aa05b7f1d2", func := "tagcache/tagcachelaw21.EpochHolds", spec := "epochHolds", inPlace := ["slices.overlaps[*tagcache/trie.node]"], unfollowed := true, recurses := true, apart := false, narrowed := true }
def EpochHoldsUptoSaid : Prop := epochHoldsUptoRow.holds Try.pinned (OpenSpec.upto epochHoldsSpec)

/-- 'tagcachelaw21.EpochPlays', WHERE WHAT IT READS IS OF BULK AT MOST 1048576: true; the input reads as it did. -/
def epochPlaysUptoRow : OpenClaim := { program := "ytagpkejbbmpcgaa", sum := "e63e44e46d4e5d659364a427c87c2b4d1d8da1979a32cba3794262aa05b7f1d2", func := "tagcache/tagcachelaw21.EpochPlays", spec := "epochPlays", inPlace := ["slices.overlaps[*tagcache/trie.node]"], unfollowed := true, recurses := true, apart := false, narrowed := true }
def EpochPlaysUptoSaid : Prop := epochPlaysUptoRow.holds Try.pinned (OpenSpec.upto epochPlaysSpec)

/-- 'tagcachelaw21.EpochRestores', WHERE WHAT IT READS IS OF BULK AT MOST 1048576: true; the input reads as it did. -/
def epochRestoresUptoRow : OpenClaim := { program := "ytagpkejbbmpcgaa", sum := "e63e44e46d4e5d659364a427c87c2b4d1d8da1979a32cba3794262aa05b7f1d2", func := "tagcache/tagcachelaw21.EpochRestores", spec := "epochRestores", inPlace := ["slices.overlaps[*tagcache/trie.node]"], unfollowed := true, recurses := true, apart := false, narrowed := true }
def EpochRestoresUptoSaid : Prop := epochRestoresUptoRow.holds Try.pinned (OpenSpec.upto epochRestoresSpec)

/-- 'tagcachelaw21.EpochNil', WHERE WHAT IT READS IS OF BULK AT MOST 1048576: true; the input reads as it did. -/
def epochNilUptoRow : OpenClaim := { program := "ytagpkejbbmpcgaa", sum := "e63e44e46d4e5d659364a427c87c2b4d1d8da1979a32cba3794262aa05b7f1d2", func := "tagcache/tagcachelaw21.EpochNil", spec := "epochNil", inPlace := ["slices.overlaps[*tagcache/trie.node]"], unfollowed := true, recurses := true, apart := false, narrowed := true }
def EpochNilUptoSaid : Prop := epochNilUptoRow.holds Try.pinned (OpenSpec.upto epochNilSpec)

end Rows
end Go.Proofs.Ytagpkejbbmpcgaa
