/-
  No cell of these rows narrows 'for every input' (looked for: loops, veiled, ifaces, maps, wideKeys, modest, calm, conditions, laid).
  DERIVED. THE GIVEN ROWS OF THIS SEAT. 5 by the template 'for every input the law returns true; each argument reads behind the call as it read before'; 0 by the template 'total and deterministic' (their statements: YtddionboojdjlaaTotals.lean).
  GIVEN WITH THE SEED: the statements are not yours to turn. If you find one false, say at which input.
  Laid BY PROGRAM, IN A SANDBOX (cutbox-rows.mjs): the forced cells as the released guide's own fill.sh prints them over the translation 37068e78ebd273ab… (all of the seat's roots in one cut). By AI agents, Wed Nov 11 2026. No macro, syntax, notation, axiom, sorry.
-/
import Derived.Test.YtddionboojdjlaaChecked
import GoSem.Claim
import GoSem.ClaimJoined
import GoSem.ClaimMapViews
import Derived.JoinedTies
import Derived.KernelRfl
namespace Go.Proofs.Ytddionboojdjlaa
/- THE CELL 'sum', in the pinned program and in every row, IS THE sha256 OF THE DUMP (.gsa) THAT YtddionboojdjlaaProg.lean LOADS. Nothing in Lean hashes anything: it is a label: what it is worth is what the hold of that sum in a sandbox is worth. -/
noncomputable def Try.pinned : Pinned := { name := "ytddionboojdjlaa", sum := "37068e78ebd273ab611fa48eaeadb7dcb24d1ea1a1491189ca4844c9a219d9e8", checked := Try.checked }
namespace Rows
def none {H : Type} : Left H := { results := [], args := [] }

/-- 'tagcachelaw23.CascadeOrders': WHATEVER THE INPUT: true; the input reads as it did. -/
def cascadeOrdersSpec : ChangeSpec := { name := "cascadeOrders", fn := fun _ => fun
  | [d1, d2, d3, d4] => { results := [.lit (.bool true)], args := [d1, d2, d3, d4] }
  | _ => none }
def cascadeOrdersRow : OpenClaim := { program := "ytddionboojdjlaa", sum := "37068e78ebd273ab611fa48eaeadb7dcb24d1ea1a1491189ca4844c9a219d9e8", func := "tagcache/tagcachelaw23.CascadeOrders", spec := "cascadeOrders", unfollowed := true, recurses := true, apart := false }
def CascadeOrdersSaid : Prop := cascadeOrdersRow.holds Try.pinned (OpenSpec.ofChange cascadeOrdersSpec)

/-- ITS FALSE NEIGHBOUR: 'it returns false'. Refute it at one input. -/
def cascadeOrdersWrong : ChangeSpec := { name := "cascadeOrders", fn := fun _ => fun
  | [d1, d2, d3, d4] => { results := [.lit (.bool false)], args := [d1, d2, d3, d4] }
  | _ => none }
def CascadeOrdersWrongFalsely : Prop := cascadeOrdersRow.holds Try.pinned (OpenSpec.ofChange cascadeOrdersWrong)

/-- 'tagcachelaw23.CascadeTombs': WHATEVER THE INPUT: true; the input reads as it did. -/
def cascadeTombsSpec : ChangeSpec := { name := "cascadeTombs", fn := fun _ => fun
  | [d1, d2] => { results := [.lit (.bool true)], args := [d1, d2] }
  | _ => none }
def cascadeTombsRow : OpenClaim := { program := "ytddionboojdjlaa", sum := "37068e78ebd273ab611fa48eaeadb7dcb24d1ea1a1491189ca4844c9a219d9e8", func := "tagcache/tagcachelaw23.CascadeTombs", spec := "cascadeTombs", unfollowed := true, recurses := true, apart := false }
def CascadeTombsSaid : Prop := cascadeTombsRow.holds Try.pinned (OpenSpec.ofChange cascadeTombsSpec)

/-- ITS FALSE NEIGHBOUR: 'it returns false'. Refute it at one input. -/
def cascadeTombsWrong : ChangeSpec := { name := "cascadeTombs", fn := fun _ => fun
  | [d1, d2] => { results := [.lit (.bool false)], args := [d1, d2] }
  | _ => none }
def CascadeTombsWrongFalsely : Prop := cascadeTombsRow.holds Try.pinned (OpenSpec.ofChange cascadeTombsWrong)

/-- 'tagcachelaw23.CascadeLong': WHATEVER THE INPUT: true; the input reads as it did. -/
def cascadeLongSpec : ChangeSpec := { name := "cascadeLong", fn := fun _ => fun
  | [d1, d2, d3] => { results := [.lit (.bool true)], args := [d1, d2, d3] }
  | _ => none }
def cascadeLongRow : OpenClaim := { program := "ytddionboojdjlaa", sum := "37068e78ebd273ab611fa48eaeadb7dcb24d1ea1a1491189ca4844c9a219d9e8", func := "tagcache/tagcachelaw23.CascadeLong", spec := "cascadeLong", unfollowed := true, recurses := true, apart := false }
def CascadeLongSaid : Prop := cascadeLongRow.holds Try.pinned (OpenSpec.ofChange cascadeLongSpec)

/-- ITS FALSE NEIGHBOUR: 'it returns false'. Refute it at one input. -/
def cascadeLongWrong : ChangeSpec := { name := "cascadeLong", fn := fun _ => fun
  | [d1, d2, d3] => { results := [.lit (.bool false)], args := [d1, d2, d3] }
  | _ => none }
def CascadeLongWrongFalsely : Prop := cascadeLongRow.holds Try.pinned (OpenSpec.ofChange cascadeLongWrong)

/-- 'tagcachelaw23.CascadeNil': WHATEVER THE INPUT: true; the input reads as it did. -/
def cascadeNilSpec : ChangeSpec := { name := "cascadeNil", fn := fun _ => fun
  | [d] => { results := [.lit (.bool true)], args := [d] }
  | _ => none }
def cascadeNilRow : OpenClaim := { program := "ytddionboojdjlaa", sum := "37068e78ebd273ab611fa48eaeadb7dcb24d1ea1a1491189ca4844c9a219d9e8", func := "tagcache/tagcachelaw23.CascadeNil", spec := "cascadeNil", unfollowed := true, recurses := true, apart := false }
def CascadeNilSaid : Prop := cascadeNilRow.holds Try.pinned (OpenSpec.ofChange cascadeNilSpec)

/-- ITS FALSE NEIGHBOUR: 'it returns false'. Refute it at one input. -/
def cascadeNilWrong : ChangeSpec := { name := "cascadeNil", fn := fun _ => fun
  | [d] => { results := [.lit (.bool false)], args := [d] }
  | _ => none }
def CascadeNilWrongFalsely : Prop := cascadeNilRow.holds Try.pinned (OpenSpec.ofChange cascadeNilWrong)

/-- 'tagcachelaw23.CascadeHolds': WHATEVER THE INPUT: true; the input reads as it did. -/
def cascadeHoldsSpec : ChangeSpec := { name := "cascadeHolds", fn := fun _ => fun
  | [d] => { results := [.lit (.bool true)], args := [d] }
  | _ => none }
def cascadeHoldsRow : OpenClaim := { program := "ytddionboojdjlaa", sum := "37068e78ebd273ab611fa48eaeadb7dcb24d1ea1a1491189ca4844c9a219d9e8", func := "tagcache/tagcachelaw23.CascadeHolds", spec := "cascadeHolds", unfollowed := true, recurses := true, apart := false }
def CascadeHoldsSaid : Prop := cascadeHoldsRow.holds Try.pinned (OpenSpec.ofChange cascadeHoldsSpec)

/-- ITS FALSE NEIGHBOUR: 'it returns false'. Refute it at one input. -/
def cascadeHoldsWrong : ChangeSpec := { name := "cascadeHolds", fn := fun _ => fun
  | [d] => { results := [.lit (.bool false)], args := [d] }
  | _ => none }
def CascadeHoldsWrongFalsely : Prop := cascadeHoldsRow.holds Try.pinned (OpenSpec.ofChange cascadeHoldsWrong)

/- THE SECOND FORM. 'bulk': how many values and letters a reading holds, each counted each time it is reached (what is shared counts as often as it is met; a slice's spare places count too). A statement '..UptoSaid' is the law's where the arguments, and the package variables that the reading takes, are together of bulk at most 1048576: NARROWER than '..Said'. Prove '..Said' where nothing that the law and all that it calls make is longer than what came in: it says more and counts as full. Else prove '..UptoSaid'. A law counts once. -/
mutual
def uptoBulk {H : Type} : DataW H → Nat
  | .lit (.string bytes) => bytes.length + 1
  | .lit _ => 1
  | .nil => 1
  | .ptr d => uptoBulk d + 1
  | .slice elems spare => uptoBulkAll elems + uptoBulkAll spare + 1
  | .agg parts => uptoBulkAll parts + 1
  | .iface _ d => uptoBulk d + 1
  | .map entries => uptoBulkEntries entries + 1
  | .held _ => 1
def uptoBulkAll {H : Type} : List (DataW H) → Nat
  | [] => 0
  | d :: r => uptoBulk d + uptoBulkAll r
def uptoBulkEntries {H : Type} : List (Lit × DataW H) → Nat
  | [] => 0
  | x :: r => uptoBulkEntry x + uptoBulkEntries r
def uptoBulkEntry {H : Type} : Lit × DataW H → Nat
  | (.string bytes, d) => bytes.length + uptoBulk d + 1
  | (_, d) => uptoBulk d + 1
 end
def uptoSmall : (H : Type) → List (DataW H) → Bool := fun _ ds => decide (uptoBulkAll ds ≤ 1048576)
def OpenSpec.upto (s : _root_.Go.ChangeSpec) : _root_.Go.OpenSpec := { _root_.Go.OpenSpec.ofChange s with cond := some uptoSmall }

/-- 'tagcachelaw23.CascadeOrders', WHERE WHAT IT READS IS OF BULK AT MOST 1048576: true; the input reads as it did. -/
def cascadeOrdersUptoRow : OpenClaim := { program := "ytddionboojdjlaa", sum := "37068e78ebd273ab611fa48eaeadb7dcb24d1ea1a1491189ca4844c9a219d9e8", func := "tagcache/tagcachelaw23.CascadeOrders", spec := "cascadeOrders", unfollowed := true, recurses := true, apart := false, narrowed := true }
def CascadeOrdersUptoSaid : Prop := cascadeOrdersUptoRow.holds Try.pinned (OpenSpec.upto cascadeOrdersSpec)

/-- 'tagcachelaw23.CascadeTombs', WHERE WHAT IT READS IS OF BULK AT MOST 1048576: true; the input reads as it did. -/
def cascadeTombsUptoRow : OpenClaim := { program := "ytddionboojdjlaa", sum := "37068e78ebd273ab611fa48eaeadb7dcb24d1ea1a1491189ca4844c9a219d9e8", func := "tagcache/tagcachelaw23.CascadeTombs", spec := "cascadeTombs", unfollowed := true, recurses := true, apart := false, narrowed := true }
def CascadeTombsUptoSaid : Prop := cascadeTombsUptoRow.holds Try.pinned (OpenSpec.upto cascadeTombsSpec)

/-- 'tagcachelaw23.CascadeLong', WHERE WHAT IT READS IS OF BULK AT MOST 1048576: true; the input reads as it did. -/
def cascadeLongUptoRow : OpenClaim := { program := "ytddionboojdjlaa", sum := "37068e78ebd273ab611fa48eaeadb7dcb24d1ea1a1491189ca4844c9a219d9e8", func := "tagcache/tagcachelaw23.CascadeLong", spec := "cascadeLong", unfollowed := true, recurses := true, apart := false, narrowed := true }
def CascadeLongUptoSaid : Prop := cascadeLongUptoRow.holds Try.pinned (OpenSpec.upto cascadeLongSpec)

/-- 'tagcachelaw23.CascadeNil', WHERE WHAT IT READS IS OF BULK AT MOST 1048576: true; the input reads as it did. -/
def cascadeNilUptoRow : OpenClaim := { program := "ytddionboojdjlaa", sum := "37068e78ebd273ab611fa48eaeadb7dcb24d1ea1a1491189ca4844c9a219d9e8", func := "tagcache/tagcachelaw23.CascadeNil", spec := "cascadeNil", unfollowed := true, recurses := true, apart := false, narrowed := true }
def CascadeNilUptoSaid : Prop := cascadeNilUptoRow.holds Try.pinned (OpenSpec.upto cascadeNilSpec)

/-- 'tagcachelaw23.CascadeHolds', WHERE WHAT IT READS IS OF BULK AT MOST 1048576: true; the input reads as it did. -/
def cascadeHoldsUptoRow : OpenClaim := { program := "ytddionboojdjlaa", sum := "37068e78ebd273ab611fa48eaeadb7dcb24d1ea1a1491189ca4844c9a219d9e8", func := "tagcache/tagcachelaw23.CascadeHolds", spec := "cascadeHolds", unfollowed := true, recurses := true, apart := false, narrowed := true }
def CascadeHoldsUptoSaid : Prop := cascadeHoldsUptoRow.holds Try.pinned (OpenSpec.upto cascadeHoldsSpec)

end Rows
end Go.Proofs.Ytddionboojdjlaa
