/-
  No cell of these rows narrows 'for every input' (looked for: loops, veiled, ifaces, maps, wideKeys, modest, calm, conditions, laid).
  DERIVED. THE GIVEN ROWS OF THIS SEAT. 5 by the template 'for every input the law returns true; each argument reads behind the call as it read before'; 0 by the template 'total and deterministic' (their statements: YtapjncdcjahlkaaTotals.lean).
  GIVEN WITH THE SEED: the statements are not yours to turn. If you find one false, say at which input.
  Laid BY PROGRAM, IN A SANDBOX (cutbox-rows.mjs): the forced cells as the released guide's own fill.sh prints them over the translation 78a5e72fa42570d0… (all of the seat's roots in one cut). By AI agents, Wed Nov 11 2026. No macro, syntax, notation, axiom, sorry.
-/
import Derived.Test.YtapjncdcjahlkaaChecked
import GoSem.Claim
import GoSem.ClaimJoined
import GoSem.ClaimMapViews
import Derived.JoinedTies
import Derived.KernelRfl
namespace Go.Proofs.Ytapjncdcjahlkaa
/- THE CELL 'sum', in the pinned program and in every row, IS THE sha256 OF THE DUMP (.gsa) THAT YtapjncdcjahlkaaProg.lean LOADS. Nothing in Lean hashes anything: it is a label: what it is worth is what the hold of that sum in a sandbox is worth. -/
noncomputable def Try.pinned : Pinned := { name := "ytapjncdcjahlkaa", sum := "78a5e72fa42570d00e3ea21402517a7120bad6f159cf7bbc1f36214bf5d1384e", checked := Try.checked }
namespace Rows
def none {H : Type} : Left H := { results := [], args := [] }

/-- 'tagcachelaw12.ExpirySorts': WHATEVER THE INPUT: true; the input reads as it did. -/
def expirySortsSpec : ChangeSpec := { name := "expirySorts", fn := fun _ => fun
  | [d1, d2, d3] => { results := [.lit (.bool true)], args := [d1, d2, d3] }
  | _ => none }
def expirySortsRow : OpenClaim := { program := "ytapjncdcjahlkaa", sum := "78a5e72fa42570d00e3ea21402517a7120bad6f159cf7bbc1f36214bf5d1384e", func := "tagcache/tagcachelaw12.ExpirySorts", spec := "expirySorts", unfollowed := true, recurses := true, apart := false }
def ExpirySortsSaid : Prop := expirySortsRow.holds Try.pinned (OpenSpec.ofChange expirySortsSpec)

/-- ITS FALSE NEIGHBOUR: 'it returns false'. Refute it at one input. -/
def expirySortsWrong : ChangeSpec := { name := "expirySorts", fn := fun _ => fun
  | [d1, d2, d3] => { results := [.lit (.bool false)], args := [d1, d2, d3] }
  | _ => none }
def ExpirySortsWrongFalsely : Prop := expirySortsRow.holds Try.pinned (OpenSpec.ofChange expirySortsWrong)

/-- 'tagcachelaw12.ExpirySlots': WHATEVER THE INPUT: true; the input reads as it did. -/
def expirySlotsSpec : ChangeSpec := { name := "expirySlots", fn := fun _ => fun
  | [d1, d2] => { results := [.lit (.bool true)], args := [d1, d2] }
  | _ => none }
def expirySlotsRow : OpenClaim := { program := "ytapjncdcjahlkaa", sum := "78a5e72fa42570d00e3ea21402517a7120bad6f159cf7bbc1f36214bf5d1384e", func := "tagcache/tagcachelaw12.ExpirySlots", spec := "expirySlots", unfollowed := true, recurses := true, apart := false }
def ExpirySlotsSaid : Prop := expirySlotsRow.holds Try.pinned (OpenSpec.ofChange expirySlotsSpec)

/-- ITS FALSE NEIGHBOUR: 'it returns false'. Refute it at one input. -/
def expirySlotsWrong : ChangeSpec := { name := "expirySlots", fn := fun _ => fun
  | [d1, d2] => { results := [.lit (.bool false)], args := [d1, d2] }
  | _ => none }
def ExpirySlotsWrongFalsely : Prop := expirySlotsRow.holds Try.pinned (OpenSpec.ofChange expirySlotsWrong)

/-- 'tagcachelaw12.ExpiryPlays': WHATEVER THE INPUT: true; the input reads as it did. -/
def expiryPlaysSpec : ChangeSpec := { name := "expiryPlays", fn := fun _ => fun
  | [d] => { results := [.lit (.bool true)], args := [d] }
  | _ => none }
def expiryPlaysRow : OpenClaim := { program := "ytapjncdcjahlkaa", sum := "78a5e72fa42570d00e3ea21402517a7120bad6f159cf7bbc1f36214bf5d1384e", func := "tagcache/tagcachelaw12.ExpiryPlays", spec := "expiryPlays", inPlace := ["maps.clone"], unfollowed := true, recurses := true, apart := false }
def ExpiryPlaysSaid : Prop := expiryPlaysRow.holds Try.pinned (OpenSpec.ofChange expiryPlaysSpec)

/-- ITS FALSE NEIGHBOUR: 'it returns false'. Refute it at one input. -/
def expiryPlaysWrong : ChangeSpec := { name := "expiryPlays", fn := fun _ => fun
  | [d] => { results := [.lit (.bool false)], args := [d] }
  | _ => none }
def ExpiryPlaysWrongFalsely : Prop := expiryPlaysRow.holds Try.pinned (OpenSpec.ofChange expiryPlaysWrong)

/-- 'tagcachelaw12.ExpiryNil': WHATEVER THE INPUT: true; the input reads as it did. -/
def expiryNilSpec : ChangeSpec := { name := "expiryNil", fn := fun _ => fun
  | [d1, d2] => { results := [.lit (.bool true)], args := [d1, d2] }
  | _ => none }
def expiryNilRow : OpenClaim := { program := "ytapjncdcjahlkaa", sum := "78a5e72fa42570d00e3ea21402517a7120bad6f159cf7bbc1f36214bf5d1384e", func := "tagcache/tagcachelaw12.ExpiryNil", spec := "expiryNil", inPlace := ["maps.clone"], unfollowed := true, recurses := true, apart := false }
def ExpiryNilSaid : Prop := expiryNilRow.holds Try.pinned (OpenSpec.ofChange expiryNilSpec)

/-- ITS FALSE NEIGHBOUR: 'it returns false'. Refute it at one input. -/
def expiryNilWrong : ChangeSpec := { name := "expiryNil", fn := fun _ => fun
  | [d1, d2] => { results := [.lit (.bool false)], args := [d1, d2] }
  | _ => none }
def ExpiryNilWrongFalsely : Prop := expiryNilRow.holds Try.pinned (OpenSpec.ofChange expiryNilWrong)

/-- 'tagcachelaw12.ExpiryHolds': WHATEVER THE INPUT: true; the input reads as it did. -/
def expiryHoldsSpec : ChangeSpec := { name := "expiryHolds", fn := fun _ => fun
  | [d1, d2, d3] => { results := [.lit (.bool true)], args := [d1, d2, d3] }
  | _ => none }
def expiryHoldsRow : OpenClaim := { program := "ytapjncdcjahlkaa", sum := "78a5e72fa42570d00e3ea21402517a7120bad6f159cf7bbc1f36214bf5d1384e", func := "tagcache/tagcachelaw12.ExpiryHolds", spec := "expiryHolds", inPlace := ["maps.clone"], unfollowed := true, recurses := true, apart := false }
def ExpiryHoldsSaid : Prop := expiryHoldsRow.holds Try.pinned (OpenSpec.ofChange expiryHoldsSpec)

/-- ITS FALSE NEIGHBOUR: 'it returns false'. Refute it at one input. -/
def expiryHoldsWrong : ChangeSpec := { name := "expiryHolds", fn := fun _ => fun
  | [d1, d2, d3] => { results := [.lit (.bool false)], args := [d1, d2, d3] }
  | _ => none }
def ExpiryHoldsWrongFalsely : Prop := expiryHoldsRow.holds Try.pinned (OpenSpec.ofChange expiryHoldsWrong)

/- THE SECOND FORM. 'bulk': how many values and letters a reading holds, each counted each time it is reached (what is shared counts as often as it is met; a slice's spare places count too). A statement '..UptoSaid' is the law's where the arguments, and the package variables that the reading takes, are together of bulk at most 1048576: NARROWER than '..Said'. Prove '..Said' where nothing that the law and all that it calls make is longer than what came in: it says more and counts as full. Else prove '..UptoSaid'. A law counts once. -/
mutual
def uptoBulk {H : Type} : DataW H → Nat
  | .lit (.string bytes) => bytes.length + 1
  | .lit _ => 1
  | .nil => 1
  | .ptr d => uptoBulk d + 1
  | .slice elems spare => uptoBulkAll elems + uptoBulkAll spare + 1
  | .agg parts => uptoBulkAll parts + 1
  | .iface _ d => uptoBulk d + 1
  | .map entries => uptoBulkEntries entries + 1
  | .held _ => 1
def uptoBulkAll {H : Type} : List (DataW H) → Nat
  | [] => 0
  | d :: r => uptoBulk d + uptoBulkAll r
def uptoBulkEntries {H : Type} : List (Lit × DataW H) → Nat
  | [] => 0
  | x :: r => uptoBulkEntry x + uptoBulkEntries r
def uptoBulkEntry {H : Type} : Lit × DataW H → Nat
  | (.string bytes, d) => bytes.length + uptoBulk d + 1
  | (_, d) => uptoBulk d + 1
 end
def uptoSmall : (H : Type) → List (DataW H) → Bool := fun _ ds => decide (uptoBulkAll ds ≤ 1048576)
def OpenSpec.upto (s : _root_.Go.ChangeSpec) : _root_.Go.OpenSpec := { _root_.Go.OpenSpec.ofChange s with cond := some uptoSmall }

/-- 'tagcachelaw12.ExpirySorts', WHERE WHAT IT READS IS OF BULK AT MOST 1048576: true; the input reads as it did. -/
def expirySortsUptoRow : OpenClaim := { program := "ytapjncdcjahlkaa", sum := "78a5e72fa42570d00e3ea21402517a7120bad6f159cf7bbc1f36214bf5d1384e", func := "tagcache/tagcachelaw12.ExpirySorts", spec := "expirySorts", unfollowed := true, recurses := true, apart := false, narrowed := true }
def ExpirySortsUptoSaid : Prop := expirySortsUptoRow.holds Try.pinned (OpenSpec.upto expirySortsSpec)

/-- 'tagcachelaw12.ExpirySlots', WHERE WHAT IT READS IS OF BULK AT MOST 1048576: true; the input reads as it did. -/
def expirySlotsUptoRow : OpenClaim := { program := "ytapjncdcjahlkaa", sum := "78a5e72fa42570d00e3ea21402517a7120bad6f159cf7bbc1f36214bf5d1384e", func := "tagcache/tagcachelaw12.ExpirySlots", spec := "expirySlots", unfollowed := true, recurses := true, apart := false, narrowed := true }
def ExpirySlotsUptoSaid : Prop := expirySlotsUptoRow.holds Try.pinned (OpenSpec.upto expirySlotsSpec)

/-- 'tagcachelaw12.ExpiryPlays', WHERE WHAT IT READS IS OF BULK AT MOST 1048576: true; the input reads as it did. -/
def expiryPlaysUptoRow : OpenClaim := { program := "ytapjncdcjahlkaa", sum := "78a5e72fa42570d00e3ea21402517a7120bad6f159cf7bbc1f36214bf5d1384e", func := "tagcache/tagcachelaw12.ExpiryPlays", spec := "expiryPlays", inPlace := ["maps.clone"], unfollowed := true, recurses := true, apart := false, narrowed := true }
def ExpiryPlaysUptoSaid : Prop := expiryPlaysUptoRow.holds Try.pinned (OpenSpec.upto expiryPlaysSpec)

/-- 'tagcachelaw12.ExpiryNil', WHERE WHAT IT READS IS OF BULK AT MOST 1048576: true; the input reads as it did. -/
def expiryNilUptoRow : OpenClaim := { program := "ytapjncdcjahlkaa", sum := "78a5e72fa42570d00e3ea21402517a7120bad6f159cf7bbc1f36214bf5d1384e", func := "tagcache/tagcachelaw12.ExpiryNil", spec := "expiryNil", inPlace := ["maps.clone"], unfollowed := true, recurses := true, apart := false, narrowed := true }
def ExpiryNilUptoSaid : Prop := expiryNilUptoRow.holds Try.pinned (OpenSpec.upto expiryNilSpec)

/-- 'tagcachelaw12.ExpiryHolds', WHERE WHAT IT READS IS OF BULK AT MOST 1048576: true; the input reads as it did. -/
def expiryHoldsUptoRow : OpenClaim := { program := "ytapjncdcjahlkaa", sum := "78a5e72fa42570d00e3ea21402517a7120bad6f159cf7bbc1f36214bf5d1384e", func := "tagcache/tagcachelaw12.ExpiryHolds", spec := "expiryHolds", inPlace := ["maps.clone"], unfollowed := true, recurses := true, apart := false, narrowed := true }
def ExpiryHoldsUptoSaid : Prop := expiryHoldsUptoRow.holds Try.pinned (OpenSpec.upto expiryHoldsSpec)

end Rows
end Go.Proofs.Ytapjncdcjahlkaa
