/-
  No cell of these rows narrows 'for every input' (looked for: loops, veiled, ifaces, maps, wideKeys, modest, calm, conditions, laid).
  DERIVED. THE GIVEN ROWS OF THIS SEAT. 5 by the template 'for every input the law returns true; each argument reads behind the call as it read before'; 0 by the template 'total and deterministic' (their statements: YtaejmajjhhkhbaaTotals.lean).
  GIVEN WITH THE SEED: the statements are not yours to turn. If you find one false, say at which input.
  Laid BY PROGRAM, IN A SANDBOX (cutbox-rows.mjs): the forced cells as the released guide's own fill.sh prints them over the translation bad7236a43f9afb9… (all of the seat's roots in one cut). By AI agents, Wed Nov 11 2026. No macro, syntax, notation, axiom, sorry.
-/
import Derived.Test.YtaejmajjhhkhbaaChecked
import GoSem.Claim
import GoSem.ClaimJoined
import GoSem.ClaimMapViews
import Derived.JoinedTies
import Derived.KernelRfl
namespace Go.Proofs.Ytaejmajjhhkhbaa
/- THE CELL 'sum', in the pinned program and in every row, IS THE sha256 OF THE DUMP (.gsa) THAT YtaejmajjhhkhbaaProg.lean LOADS. Nothing in Lean hashes anything: it is a label: what it is worth is what the hold of that sum in a sandbox is worth. -/
noncomputable def Try.pinned : Pinned := { name := "ytaejmajjhhkhbaa", sum := "bad7236a43f9afb9b4c6e427aa39b2c2385153368f06daa77a774e92e0c4e20f", checked := Try.checked }
namespace Rows
def none {H : Type} : Left H := { results := [], args := [] }

/-- 'tagcachelaw42.MergeStamps': WHATEVER THE INPUT: true; the input reads as it did. -/
def mergeStampsSpec : ChangeSpec := { name := "mergeStamps", fn := fun _ => fun
  | [d1, d2] => { results := [.lit (.bool true)], args := [d1, d2] }
  | _ => none }
def mergeStampsRow : OpenClaim := { program := "ytaejmajjhhkhbaa", sum := "bad7236a43f9afb9b4c6e427aa39b2c2385153368f06daa77a774e92e0c4e20f", func := "tagcache/tagcachelaw42.MergeStamps", spec := "mergeStamps", inPlace := ["maps.clone"], unfollowed := true, recurses := true, plainKeys := false, apart := false }
def MergeStampsSaid : Prop := mergeStampsRow.holds Try.pinned (OpenSpec.ofChange mergeStampsSpec)

/-- ITS FALSE NEIGHBOUR: 'it returns false'. Refute it at one input. -/
def mergeStampsWrong : ChangeSpec := { name := "mergeStamps", fn := fun _ => fun
  | [d1, d2] => { results := [.lit (.bool false)], args := [d1, d2] }
  | _ => none }
def MergeStampsWrongFalsely : Prop := mergeStampsRow.holds Try.pinned (OpenSpec.ofChange mergeStampsWrong)

/-- 'tagcachelaw42.MergeFulls': WHATEVER THE INPUT: true; the input reads as it did. -/
def mergeFullsSpec : ChangeSpec := { name := "mergeFulls", fn := fun _ => fun
  | [d1, d2] => { results := [.lit (.bool true)], args := [d1, d2] }
  | _ => none }
def mergeFullsRow : OpenClaim := { program := "ytaejmajjhhkhbaa", sum := "bad7236a43f9afb9b4c6e427aa39b2c2385153368f06daa77a774e92e0c4e20f", func := "tagcache/tagcachelaw42.MergeFulls", spec := "mergeFulls", inPlace := ["maps.clone"], unfollowed := true, recurses := true, plainKeys := false, apart := false }
def MergeFullsSaid : Prop := mergeFullsRow.holds Try.pinned (OpenSpec.ofChange mergeFullsSpec)

/-- ITS FALSE NEIGHBOUR: 'it returns false'. Refute it at one input. -/
def mergeFullsWrong : ChangeSpec := { name := "mergeFulls", fn := fun _ => fun
  | [d1, d2] => { results := [.lit (.bool false)], args := [d1, d2] }
  | _ => none }
def MergeFullsWrongFalsely : Prop := mergeFullsRow.holds Try.pinned (OpenSpec.ofChange mergeFullsWrong)

/-- 'tagcachelaw42.MergeHolds': WHATEVER THE INPUT: true; the input reads as it did. -/
def mergeHoldsSpec : ChangeSpec := { name := "mergeHolds", fn := fun _ => fun
  | [d1, d2, d3, d4] => { results := [.lit (.bool true)], args := [d1, d2, d3, d4] }
  | _ => none }
def mergeHoldsRow : OpenClaim := { program := "ytaejmajjhhkhbaa", sum := "bad7236a43f9afb9b4c6e427aa39b2c2385153368f06daa77a774e92e0c4e20f", func := "tagcache/tagcachelaw42.MergeHolds", spec := "mergeHolds", inPlace := ["maps.clone"], unfollowed := true, recurses := true, plainKeys := false, apart := false }
def MergeHoldsSaid : Prop := mergeHoldsRow.holds Try.pinned (OpenSpec.ofChange mergeHoldsSpec)

/-- ITS FALSE NEIGHBOUR: 'it returns false'. Refute it at one input. -/
def mergeHoldsWrong : ChangeSpec := { name := "mergeHolds", fn := fun _ => fun
  | [d1, d2, d3, d4] => { results := [.lit (.bool false)], args := [d1, d2, d3, d4] }
  | _ => none }
def MergeHoldsWrongFalsely : Prop := mergeHoldsRow.holds Try.pinned (OpenSpec.ofChange mergeHoldsWrong)

/-- 'tagcachelaw42.MergePlays': WHATEVER THE INPUT: true; the input reads as it did. -/
def mergePlaysSpec : ChangeSpec := { name := "mergePlays", fn := fun _ => fun
  | [d1, d2] => { results := [.lit (.bool true)], args := [d1, d2] }
  | _ => none }
def mergePlaysRow : OpenClaim := { program := "ytaejmajjhhkhbaa", sum := "bad7236a43f9afb9b4c6e427aa39b2c2385153368f06daa77a774e92e0c4e20f", func := "tagcache/tagcachelaw42.MergePlays", spec := "mergePlays", inPlace := ["maps.clone"], unfollowed := true, recurses := true, plainKeys := false, apart := false }
def MergePlaysSaid : Prop := mergePlaysRow.holds Try.pinned (OpenSpec.ofChange mergePlaysSpec)

/-- ITS FALSE NEIGHBOUR: 'it returns false'. Refute it at one input. -/
def mergePlaysWrong : ChangeSpec := { name := "mergePlays", fn := fun _ => fun
  | [d1, d2] => { results := [.lit (.bool false)], args := [d1, d2] }
  | _ => none }
def MergePlaysWrongFalsely : Prop := mergePlaysRow.holds Try.pinned (OpenSpec.ofChange mergePlaysWrong)

/-- 'tagcachelaw42.MergeNone': WHATEVER THE INPUT: true; the input reads as it did. -/
def mergeNoneSpec : ChangeSpec := { name := "mergeNone", fn := fun _ => fun
  | [d] => { results := [.lit (.bool true)], args := [d] }
  | _ => none }
def mergeNoneRow : OpenClaim := { program := "ytaejmajjhhkhbaa", sum := "bad7236a43f9afb9b4c6e427aa39b2c2385153368f06daa77a774e92e0c4e20f", func := "tagcache/tagcachelaw42.MergeNone", spec := "mergeNone", inPlace := ["maps.clone"], unfollowed := true, recurses := true, plainKeys := false, apart := false }
def MergeNoneSaid : Prop := mergeNoneRow.holds Try.pinned (OpenSpec.ofChange mergeNoneSpec)

/-- ITS FALSE NEIGHBOUR: 'it returns false'. Refute it at one input. -/
def mergeNoneWrong : ChangeSpec := { name := "mergeNone", fn := fun _ => fun
  | [d] => { results := [.lit (.bool false)], args := [d] }
  | _ => none }
def MergeNoneWrongFalsely : Prop := mergeNoneRow.holds Try.pinned (OpenSpec.ofChange mergeNoneWrong)

/- THE SECOND FORM. 'bulk': how many values and letters a reading holds, each counted each time it is reached (what is shared counts as often as it is met; a slice's spare places count too). A statement '..UptoSaid' is the law's where the arguments, and the package variables that the reading takes, are together of bulk at most 1048576: NARROWER than '..Said'. Prove '..Said' where nothing that the law and all that it calls make is longer than what came in: it says more and counts as full. Else prove '..UptoSaid'. A law counts once. -/
mutual
def uptoBulk {H : Type} : DataW H → Nat
  | .lit (.string bytes) => bytes.length + 1
  | .lit _ => 1
  | .nil => 1
  | .ptr d => uptoBulk d + 1
  | .slice elems spare => uptoBulkAll elems + uptoBulkAll spare + 1
  | .agg parts => uptoBulkAll parts + 1
  | .iface _ d => uptoBulk d + 1
  | .map entries => uptoBulkEntries entries + 1
  | .held _ => 1
def uptoBulkAll {H : Type} : List (DataW H) → Nat
  | [] => 0
  | d :: r => uptoBulk d + uptoBulkAll r
def uptoBulkEntries {H : Type} : List (Lit × DataW H) → Nat
  | [] => 0
  | x :: r => uptoBulkEntry x + uptoBulkEntries r
def uptoBulkEntry {H : Type} : Lit × DataW H → Nat
  | (.string bytes, d) => bytes.length + uptoBulk d + 1
  | (_, d) => uptoBulk d + 1
 end
def uptoSmall : (H : Type) → List (DataW H) → Bool := fun _ ds => decide (uptoBulkAll ds ≤ 1048576)
def OpenSpec.upto (s : _root_.Go.ChangeSpec) : _root_.Go.OpenSpec := { _root_.Go.OpenSpec.ofChange s with cond := some uptoSmall }

/-- 'tagcachelaw42.MergeStamps', WHERE WHAT IT READS IS OF BULK AT MOST 1048576: true; the input reads as it did. -/
def mergeStampsUptoRow : OpenClaim := { program := "ytaejmajjhhkhbaa", sum := "bad7236a43f9afb9b4c6e427aa39b2c2385153368f06daa77a774e92e0c4e20f", func := "tagcache/tagcachelaw42.MergeStamps", spec := "mergeStamps", inPlace := ["maps.clone"], unfollowed := true, recurses := true, plainKeys := false, apart := false, narrowed := true }
def MergeStampsUptoSaid : Prop := mergeStampsUptoRow.holds Try.pinned (OpenSpec.upto mergeStampsSpec)

/-- 'tagcachelaw42.MergeFulls', WHERE WHAT IT READS IS OF BULK AT MOST 1048576: true; the input reads as it did. -/
def mergeFullsUptoRow : OpenClaim := { program := "ytaejmajjhhkhbaa", sum := "bad7236a43f9afb9b4c6e427aa39b2c2385153368f06daa77a774e92e0c4e20f", func := "tagcache/tagcachelaw42.MergeFulls", spec := "mergeFulls", inPlace := ["maps.clone"], unfollowed := true, recurses := true, plainKeys := false, apart := false, narrowed := true }
def MergeFullsUptoSaid : Prop := mergeFullsUptoRow.holds Try.pinned (OpenSpec.upto mergeFullsSpec)

/-- 'tagcachelaw42.MergeHolds', WHERE WHAT IT READS IS OF BULK AT MOST 1048576: true; the input reads as it did. -/
def mergeHoldsUptoRow : OpenClaim := { program := "ytaejmajjhhkhbaa", sum := "bad7236a43f9afb9b4c6e427aa39b2c2385153368f06daa77a774e92e0c4e20f", func := "tagcache/tagcachelaw42.MergeHolds", spec := "mergeHolds", inPlace := ["maps.clone"], unfollowed := true, recurses := true, plainKeys := false, apart := false, narrowed := true }
def MergeHoldsUptoSaid : Prop := mergeHoldsUptoRow.holds Try.pinned (OpenSpec.upto mergeHoldsSpec)

/-- 'tagcachelaw42.MergePlays', WHERE WHAT IT READS IS OF BULK AT MOST 1048576: true; the input reads as it did. -/
def mergePlaysUptoRow : OpenClaim := { program := "ytaejmajjhhkhbaa", sum := "bad7236a43f9afb9b4c6e427aa39b2c2385153368f06daa77a774e92e0c4e20f", func := "tagcache/tagcachelaw42.MergePlays", spec := "mergePlays", inPlace := ["maps.clone"], unfollowed := true, recurses := true, plainKeys := false, apart := false, narrowed := true }
def MergePlaysUptoSaid : Prop := mergePlaysUptoRow.holds Try.pinned (OpenSpec.upto mergePlaysSpec)

/-- 'tagcachelaw42.MergeNone', WHERE WHAT IT READS IS OF BULK AT MOST 1048576: true; the input reads as it did. -/
def mergeNoneUptoRow : OpenClaim := { program := "ytaejmajjhhkhbaa", sum := "bad7236a43f9afb9b4c6e427aa39b2c2385153368f06daa77a774e92e0c4e20f", func := "tagcache/tagcachelaw42.MergeNone", spec := "mergeNone", inPlace := ["maps.clone"], unfollowed := true, recurses := true, plainKeys := false, apart := false, narrowed := true }
def MergeNoneUptoSaid : Prop := mergeNoneUptoRow.holds Try.pinned (OpenSpec.upto mergeNoneSpec)

end Rows
end Go.Proofs.Ytaejmajjhhkhbaa
