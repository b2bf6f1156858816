/-
  No cell of these rows narrows 'for every input' (looked for: loops, veiled, ifaces, maps, wideKeys, modest, calm, conditions, laid).
  DERIVED. THE GIVEN ROWS OF THIS SEAT. 6 by the template 'for every input the law returns true; each argument reads behind the call as it read before'; 0 by the template 'total and deterministic' (their statements: YtmgcpfljhcahoaaTotals.lean).
  GIVEN WITH THE SEED: the statements are not yours to turn. If you find one false, say at which input.
  Laid BY PROGRAM, IN A SANDBOX (cutbox-rows.mjs): the forced cells as the released guide's own fill.sh prints them over the translation 937f10c7d8c0ffa1… (all of the seat's roots in one cut). By AI agents, Wed Nov 11 2026. No macro, syntax, notation, axiom, sorry.
-/
import Derived.Test.YtmgcpfljhcahoaaChecked
import GoSem.Claim
import GoSem.ClaimJoined
import GoSem.ClaimMapViews
import Derived.JoinedTies
import Derived.KernelRfl
namespace Go.Proofs.Ytmgcpfljhcahoaa
/- THE CELL 'sum', in the pinned program and in every row, IS THE sha256 OF THE DUMP (.gsa) THAT YtmgcpfljhcahoaaProg.lean LOADS. Nothing in Lean hashes anything: it is a label: what it is worth is what the hold of that sum in a sandbox is worth. -/
noncomputable def Try.pinned : Pinned := { name := "ytmgcpfljhcahoaa", sum := "937f10c7d8c0ffa1bac65317b4a75781cd2e732d7a3ae09790a7179ba4ce123e", checked := Try.checked }
namespace Rows
def none {H : Type} : Left H := { results := [], args := [] }

/-- 'tagcachelaw22.GraphNew': WHATEVER THE INPUT: true; the input reads as it did. -/
def graphNewSpec : ChangeSpec := { name := "graphNew", fn := fun _ => fun
  | [d1, d2, d3] => { results := [.lit (.bool true)], args := [d1, d2, d3] }
  | _ => none }
def graphNewRow : OpenClaim := { program := "ytmgcpfljhcahoaa", sum := "937f10c7d8c0ffa1bac65317b4a75781cd2e732d7a3ae09790a7179ba4ce123e", func := "tagcache/tagcachelaw22.GraphNew", spec := "graphNew", unfollowed := true, recurses := true, apart := false }
def GraphNewSaid : Prop := graphNewRow.holds Try.pinned (OpenSpec.ofChange graphNewSpec)

/-- ITS FALSE NEIGHBOUR: 'it returns false'. Refute it at one input. -/
def graphNewWrong : ChangeSpec := { name := "graphNew", fn := fun _ => fun
  | [d1, d2, d3] => { results := [.lit (.bool false)], args := [d1, d2, d3] }
  | _ => none }
def GraphNewWrongFalsely : Prop := graphNewRow.holds Try.pinned (OpenSpec.ofChange graphNewWrong)

/-- 'tagcachelaw22.GraphSearches': WHATEVER THE INPUT: true; the input reads as it did. -/
def graphSearchesSpec : ChangeSpec := { name := "graphSearches", fn := fun _ => fun
  | [d1, d2, d3, d4] => { results := [.lit (.bool true)], args := [d1, d2, d3, d4] }
  | _ => none }
def graphSearchesRow : OpenClaim := { program := "ytmgcpfljhcahoaa", sum := "937f10c7d8c0ffa1bac65317b4a75781cd2e732d7a3ae09790a7179ba4ce123e", func := "tagcache/tagcachelaw22.GraphSearches", spec := "graphSearches", unfollowed := true, recurses := true, apart := false }
def GraphSearchesSaid : Prop := graphSearchesRow.holds Try.pinned (OpenSpec.ofChange graphSearchesSpec)

/-- ITS FALSE NEIGHBOUR: 'it returns false'. Refute it at one input. -/
def graphSearchesWrong : ChangeSpec := { name := "graphSearches", fn := fun _ => fun
  | [d1, d2, d3, d4] => { results := [.lit (.bool false)], args := [d1, d2, d3, d4] }
  | _ => none }
def GraphSearchesWrongFalsely : Prop := graphSearchesRow.holds Try.pinned (OpenSpec.ofChange graphSearchesWrong)

/-- 'tagcachelaw22.GraphFull': WHATEVER THE INPUT: true; the input reads as it did. -/
def graphFullSpec : ChangeSpec := { name := "graphFull", fn := fun _ => fun
  | [d1, d2, d3] => { results := [.lit (.bool true)], args := [d1, d2, d3] }
  | _ => none }
def graphFullRow : OpenClaim := { program := "ytmgcpfljhcahoaa", sum := "937f10c7d8c0ffa1bac65317b4a75781cd2e732d7a3ae09790a7179ba4ce123e", func := "tagcache/tagcachelaw22.GraphFull", spec := "graphFull", unfollowed := true, recurses := true, apart := false }
def GraphFullSaid : Prop := graphFullRow.holds Try.pinned (OpenSpec.ofChange graphFullSpec)

/-- ITS FALSE NEIGHBOUR: 'it returns false'. Refute it at one input. -/
def graphFullWrong : ChangeSpec := { name := "graphFull", fn := fun _ => fun
  | [d1, d2, d3] => { results := [.lit (.bool false)], args := [d1, d2, d3] }
  | _ => none }
def GraphFullWrongFalsely : Prop := graphFullRow.holds Try.pinned (OpenSpec.ofChange graphFullWrong)

/-- 'tagcachelaw22.GraphHolds': WHATEVER THE INPUT: true; the input reads as it did. -/
def graphHoldsSpec : ChangeSpec := { name := "graphHolds", fn := fun _ => fun
  | [d1, d2, d3] => { results := [.lit (.bool true)], args := [d1, d2, d3] }
  | _ => none }
def graphHoldsRow : OpenClaim := { program := "ytmgcpfljhcahoaa", sum := "937f10c7d8c0ffa1bac65317b4a75781cd2e732d7a3ae09790a7179ba4ce123e", func := "tagcache/tagcachelaw22.GraphHolds", spec := "graphHolds", unfollowed := true, recurses := true, apart := false }
def GraphHoldsSaid : Prop := graphHoldsRow.holds Try.pinned (OpenSpec.ofChange graphHoldsSpec)

/-- ITS FALSE NEIGHBOUR: 'it returns false'. Refute it at one input. -/
def graphHoldsWrong : ChangeSpec := { name := "graphHolds", fn := fun _ => fun
  | [d1, d2, d3] => { results := [.lit (.bool false)], args := [d1, d2, d3] }
  | _ => none }
def GraphHoldsWrongFalsely : Prop := graphHoldsRow.holds Try.pinned (OpenSpec.ofChange graphHoldsWrong)

/-- 'tagcachelaw22.GraphPlays': WHATEVER THE INPUT: true; the input reads as it did. -/
def graphPlaysSpec : ChangeSpec := { name := "graphPlays", fn := fun _ => fun
  | [d1, d2, d3] => { results := [.lit (.bool true)], args := [d1, d2, d3] }
  | _ => none }
def graphPlaysRow : OpenClaim := { program := "ytmgcpfljhcahoaa", sum := "937f10c7d8c0ffa1bac65317b4a75781cd2e732d7a3ae09790a7179ba4ce123e", func := "tagcache/tagcachelaw22.GraphPlays", spec := "graphPlays", unfollowed := true, recurses := true, apart := false }
def GraphPlaysSaid : Prop := graphPlaysRow.holds Try.pinned (OpenSpec.ofChange graphPlaysSpec)

/-- ITS FALSE NEIGHBOUR: 'it returns false'. Refute it at one input. -/
def graphPlaysWrong : ChangeSpec := { name := "graphPlays", fn := fun _ => fun
  | [d1, d2, d3] => { results := [.lit (.bool false)], args := [d1, d2, d3] }
  | _ => none }
def GraphPlaysWrongFalsely : Prop := graphPlaysRow.holds Try.pinned (OpenSpec.ofChange graphPlaysWrong)

/-- 'tagcachelaw22.GraphNil': WHATEVER THE INPUT: true; the input reads as it did. -/
def graphNilSpec : ChangeSpec := { name := "graphNil", fn := fun _ => fun
  | [d1, d2, d3] => { results := [.lit (.bool true)], args := [d1, d2, d3] }
  | _ => none }
def graphNilRow : OpenClaim := { program := "ytmgcpfljhcahoaa", sum := "937f10c7d8c0ffa1bac65317b4a75781cd2e732d7a3ae09790a7179ba4ce123e", func := "tagcache/tagcachelaw22.GraphNil", spec := "graphNil", unfollowed := true, recurses := true, apart := false }
def GraphNilSaid : Prop := graphNilRow.holds Try.pinned (OpenSpec.ofChange graphNilSpec)

/-- ITS FALSE NEIGHBOUR: 'it returns false'. Refute it at one input. -/
def graphNilWrong : ChangeSpec := { name := "graphNil", fn := fun _ => fun
  | [d1, d2, d3] => { results := [.lit (.bool false)], args := [d1, d2, d3] }
  | _ => none }
def GraphNilWrongFalsely : Prop := graphNilRow.holds Try.pinned (OpenSpec.ofChange graphNilWrong)

/- THE SECOND FORM. 'bulk': how many values and letters a reading holds, each counted each time it is reached (what is shared counts as often as it is met; a slice's spare places count too). A statement '..UptoSaid' is the law's where the arguments, and the package variables that the reading takes, are together of bulk at most 1048576: NARROWER than '..Said'. Prove '..Said' where nothing that the law and all that it calls make is longer than what came in: it says more and counts as full. Else prove '..UptoSaid'. A law counts once. -/
mutual
def uptoBulk {H : Type} : DataW H → Nat
  | .lit (.string bytes) => bytes.length + 1
  | .lit _ => 1
  | .nil => 1
  | .ptr d => uptoBulk d + 1
  | .slice elems spare => uptoBulkAll elems + uptoBulkAll spare + 1
  | .agg parts => uptoBulkAll parts + 1
  | .iface _ d => uptoBulk d + 1
  | .map entries => uptoBulkEntries entries + 1
  | .held _ => 1
def uptoBulkAll {H : Type} : List (DataW H) → Nat
  | [] => 0
  | d :: r => uptoBulk d + uptoBulkAll r
def uptoBulkEntries {H : Type} : List (Lit × DataW H) → Nat
  | [] => 0
  | x :: r => uptoBulkEntry x + uptoBulkEntries r
def uptoBulkEntry {H : Type} : Lit × DataW H → Nat
  | (.string bytes, d) => bytes.length + uptoBulk d + 1
  | (_, d) => uptoBulk d + 1
 end
def uptoSmall : (H : Type) → List (DataW H) → Bool := fun _ ds => decide (uptoBulkAll ds ≤ 1048576)
def OpenSpec.upto (s : _root_.Go.ChangeSpec) : _root_.Go.OpenSpec := { _root_.Go.OpenSpec.ofChange s with cond := some uptoSmall }

/-- 'tagcachelaw22.GraphNew', WHERE WHAT IT READS IS OF BULK AT MOST 1048576: true; the input reads as it did. -/
def graphNewUptoRow : OpenClaim := { program := "ytmgcpfljhcahoaa", sum := "937f10c7d8c0ffa1bac65317b4a75781cd2e732d7a3ae09790a7179ba4ce123e", func := "tagcache/tagcachelaw22.GraphNew", spec := "graphNew", unfollowed := true, recurses := true, apart := false, narrowed := true }
def GraphNewUptoSaid : Prop := graphNewUptoRow.holds Try.pinned (OpenSpec.upto graphNewSpec)

/-- 'tagcachelaw22.GraphSearches', WHERE WHAT IT READS IS OF BULK AT MOST 1048576: true; the input reads as it did. -/
def graphSearchesUptoRow : OpenClaim := { program := "ytmgcpfljhcahoaa", sum := "937f10c7d8c0ffa1bac65317b4a75781cd2e732d7a3ae09790a7179ba4ce123e", func := "tagcache/tagcachelaw22.GraphSearches", spec := "graphSearches", unfollowed := true, recurses := true, apart := false, narrowed := true }
def GraphSearchesUptoSaid : Prop := graphSearchesUptoRow.holds Try.pinned (OpenSpec.upto graphSearchesSpec)

/-- 'tagcachelaw22.GraphFull', WHERE WHAT IT READS IS OF BULK AT MOST 1048576: true; the input reads as it did. -/
def graphFullUptoRow : OpenClaim := { program := "ytmgcpfljhcahoaa", sum := "937f10c7d8c0ffa1bac65317b4a75781cd2e732d7a3ae09790a7179ba4ce123e", func := "tagcache/tagcachelaw22.GraphFull", spec := "graphFull", unfollowed := true, recurses := true, apart := false, narrowed := true }
def GraphFullUptoSaid : Prop := graphFullUptoRow.holds Try.pinned (OpenSpec.upto graphFullSpec)

/-- 'tagcachelaw22.GraphHolds', WHERE WHAT IT READS IS OF BULK AT MOST 1048576: true; the input reads as it did. -/
def graphHoldsUptoRow : OpenClaim := { program := "ytmgcpfljhcahoaa", sum := "937f10c7d8c0ffa1bac65317b4a75781cd2e732d7a3ae09790a7179ba4ce123e", func := "tagcache/tagcachelaw22.GraphHolds", spec := "graphHolds", unfollowed := true, recurses := true, apart := false, narrowed := true }
def GraphHoldsUptoSaid : Prop := graphHoldsUptoRow.holds Try.pinned (OpenSpec.upto graphHoldsSpec)

/-- 'tagcachelaw22.GraphPlays', WHERE WHAT IT READS IS OF BULK AT MOST 1048576: true; the input reads as it did. -/
def graphPlaysUptoRow : OpenClaim := { program := "ytmgcpfljhcahoaa", sum := "937f10c7d8c0ffa1bac65317b4a75781cd2e732d7a3ae09790a7179ba4ce123e", func := "tagcache/tagcachelaw22.GraphPlays", spec := "graphPlays", unfollowed := true, recurses := true, apart := false, narrowed := true }
def GraphPlaysUptoSaid : Prop := graphPlaysUptoRow.holds Try.pinned (OpenSpec.upto graphPlaysSpec)

/-- 'tagcachelaw22.GraphNil', WHERE WHAT IT READS IS OF BULK AT MOST 1048576: true; the input reads as it did. -/
def graphNilUptoRow : OpenClaim := { program := "ytmgcpfljhcahoaa", sum := "937f10c7d8c0ffa1bac65317b4a75781cd2e732d7a3ae09790a7179ba4ce123e", func := "tagcache/tagcachelaw22.GraphNil", spec := "graphNil", unfollowed := true, recurses := true, apart := false, narrowed := true }
def GraphNilUptoSaid : Prop := graphNilUptoRow.holds Try.pinned (OpenSpec.upto graphNilSpec)

end Rows
end Go.Proofs.Ytmgcpfljhcahoaa
