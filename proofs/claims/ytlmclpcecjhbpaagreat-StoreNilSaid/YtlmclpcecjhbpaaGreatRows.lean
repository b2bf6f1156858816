/-
  No cell of these rows narrows 'for every input' (looked for: loops, veiled, ifaces, maps, wideKeys, modest, calm, conditions, laid).
  DERIVED. THE GIVEN ROWS OF THIS SEAT. 6 by the template 'for every input the law returns true; each argument reads behind the call as it read before'; 0 by the template 'total and deterministic' (their statements: YtlmclpcecjhbpaaGreatTotals.lean).
  GIVEN WITH THE SEED: the statements are not yours to turn. If you find one false, say at which input.
  Laid BY PROGRAM, IN A SANDBOX (cutbox-rows.mjs): the forced cells as the released guide's own fill.sh prints them over the translation eb7f5ffc4bd4d324… (all of the seat's roots in one cut). By AI agents, Wed Nov 11 2026. No macro, syntax, notation, axiom, sorry.
-/
import Derived.Test.YtlmclpcecjhbpaaGreatChecked
import GoSem.Claim
import GoSem.ClaimJoined
import GoSem.ClaimMapViews
import Derived.JoinedTies
import Derived.KernelRfl
namespace Go.Proofs.YtlmclpcecjhbpaaGreat
/- THE CELL 'sum', in the pinned program and in every row, IS THE sha256 OF THE DUMP (.gsa) THAT YtlmclpcecjhbpaaGreatProg.lean LOADS. Nothing in Lean hashes anything: it is a label: what it is worth is what the hold of that sum in a sandbox is worth. -/
noncomputable def Tryz.pinned : Pinned := { name := "ytlmclpcecjhbpaagreat", sum := "eb7f5ffc4bd4d3249d3b13ed655bf59aaefc8be8e28b3f25471b5dea067304ea", checked := Tryz.checked }
namespace Rows
def none {H : Type} : Left H := { results := [], args := [] }

/-- 'tagcachelaw14.StorePlays': WHATEVER THE INPUT: true; the input reads as it did. -/
def storePlaysSpec : ChangeSpec := { name := "storePlays", fn := fun _ => fun
  | [d1, d2, d3] => { results := [.lit (.bool true)], args := [d1, d2, d3] }
  | _ => none }
def storePlaysRow : OpenClaim := { program := "ytlmclpcecjhbpaagreat", sum := "eb7f5ffc4bd4d3249d3b13ed655bf59aaefc8be8e28b3f25471b5dea067304ea", func := "tagcache/tagcachelaw14.StorePlays", spec := "storePlays", inPlace := ["maps.clone"], unfollowed := true, recurses := true, apart := false }
def StorePlaysSaid : Prop := storePlaysRow.holds Tryz.pinned (OpenSpec.ofChange storePlaysSpec)

/-- ITS FALSE NEIGHBOUR: 'it returns false'. Refute it at one input. -/
def storePlaysWrong : ChangeSpec := { name := "storePlays", fn := fun _ => fun
  | [d1, d2, d3] => { results := [.lit (.bool false)], args := [d1, d2, d3] }
  | _ => none }
def StorePlaysWrongFalsely : Prop := storePlaysRow.holds Tryz.pinned (OpenSpec.ofChange storePlaysWrong)

/-- 'tagcachelaw14.StoreNil': WHATEVER THE INPUT: true; the input reads as it did. -/
def storeNilSpec : ChangeSpec := { name := "storeNil", fn := fun _ => fun
  | [d1, d2] => { results := [.lit (.bool true)], args := [d1, d2] }
  | _ => none }
def storeNilRow : OpenClaim := { program := "ytlmclpcecjhbpaagreat", sum := "eb7f5ffc4bd4d3249d3b13ed655bf59aaefc8be8e28b3f25471b5dea067304ea", func := "tagcache/tagcachelaw14.StoreNil", spec := "storeNil", inPlace := ["maps.clone"], unfollowed := true, recurses := true, apart := false }
def StoreNilSaid : Prop := storeNilRow.holds Tryz.pinned (OpenSpec.ofChange storeNilSpec)

/-- ITS FALSE NEIGHBOUR: 'it returns false'. Refute it at one input. -/
def storeNilWrong : ChangeSpec := { name := "storeNil", fn := fun _ => fun
  | [d1, d2] => { results := [.lit (.bool false)], args := [d1, d2] }
  | _ => none }
def StoreNilWrongFalsely : Prop := storeNilRow.holds Tryz.pinned (OpenSpec.ofChange storeNilWrong)

/-- 'tagcachelaw14.StoreLongs': WHATEVER THE INPUT: true; the input reads as it did. -/
def storeLongsSpec : ChangeSpec := { name := "storeLongs", fn := fun _ => fun
  | [d1, d2] => { results := [.lit (.bool true)], args := [d1, d2] }
  | _ => none }
def storeLongsRow : OpenClaim := { program := "ytlmclpcecjhbpaagreat", sum := "eb7f5ffc4bd4d3249d3b13ed655bf59aaefc8be8e28b3f25471b5dea067304ea", func := "tagcache/tagcachelaw14.StoreLongs", spec := "storeLongs", unfollowed := true, recurses := true, apart := false }
def StoreLongsSaid : Prop := storeLongsRow.holds Tryz.pinned (OpenSpec.ofChange storeLongsSpec)

/-- ITS FALSE NEIGHBOUR: 'it returns false'. Refute it at one input. -/
def storeLongsWrong : ChangeSpec := { name := "storeLongs", fn := fun _ => fun
  | [d1, d2] => { results := [.lit (.bool false)], args := [d1, d2] }
  | _ => none }
def StoreLongsWrongFalsely : Prop := storeLongsRow.holds Tryz.pinned (OpenSpec.ofChange storeLongsWrong)

/-- 'tagcachelaw14.StoreIterates': WHATEVER THE INPUT: true; the input reads as it did. -/
def storeIteratesSpec : ChangeSpec := { name := "storeIterates", fn := fun _ => fun
  | [d1, d2] => { results := [.lit (.bool true)], args := [d1, d2] }
  | _ => none }
def storeIteratesRow : OpenClaim := { program := "ytlmclpcecjhbpaagreat", sum := "eb7f5ffc4bd4d3249d3b13ed655bf59aaefc8be8e28b3f25471b5dea067304ea", func := "tagcache/tagcachelaw14.StoreIterates", spec := "storeIterates", unfollowed := true, recurses := true, apart := false }
def StoreIteratesSaid : Prop := storeIteratesRow.holds Tryz.pinned (OpenSpec.ofChange storeIteratesSpec)

/-- ITS FALSE NEIGHBOUR: 'it returns false'. Refute it at one input. -/
def storeIteratesWrong : ChangeSpec := { name := "storeIterates", fn := fun _ => fun
  | [d1, d2] => { results := [.lit (.bool false)], args := [d1, d2] }
  | _ => none }
def StoreIteratesWrongFalsely : Prop := storeIteratesRow.holds Tryz.pinned (OpenSpec.ofChange storeIteratesWrong)

/-- 'tagcachelaw14.StoreHolds': WHATEVER THE INPUT: true; the input reads as it did. -/
def storeHoldsSpec : ChangeSpec := { name := "storeHolds", fn := fun _ => fun
  | [d1, d2, d3, d4, d5] => { results := [.lit (.bool true)], args := [d1, d2, d3, d4, d5] }
  | _ => none }
def storeHoldsRow : OpenClaim := { program := "ytlmclpcecjhbpaagreat", sum := "eb7f5ffc4bd4d3249d3b13ed655bf59aaefc8be8e28b3f25471b5dea067304ea", func := "tagcache/tagcachelaw14.StoreHolds", spec := "storeHolds", unfollowed := true, recurses := true, apart := false }
def StoreHoldsSaid : Prop := storeHoldsRow.holds Tryz.pinned (OpenSpec.ofChange storeHoldsSpec)

/-- ITS FALSE NEIGHBOUR: 'it returns false'. Refute it at one input. -/
def storeHoldsWrong : ChangeSpec := { name := "storeHolds", fn := fun _ => fun
  | [d1, d2, d3, d4, d5] => { results := [.lit (.bool false)], args := [d1, d2, d3, d4, d5] }
  | _ => none }
def StoreHoldsWrongFalsely : Prop := storeHoldsRow.holds Tryz.pinned (OpenSpec.ofChange storeHoldsWrong)

/-- 'tagcachelaw14.StoreNew': WHATEVER THE INPUT: true; the input reads as it did. -/
def storeNewSpec : ChangeSpec := { name := "storeNew", fn := fun _ => fun
  | [d1, d2, d3] => { results := [.lit (.bool true)], args := [d1, d2, d3] }
  | _ => none }
def storeNewRow : OpenClaim := { program := "ytlmclpcecjhbpaagreat", sum := "eb7f5ffc4bd4d3249d3b13ed655bf59aaefc8be8e28b3f25471b5dea067304ea", func := "tagcache/tagcachelaw14.StoreNew", spec := "storeNew", unfollowed := true, recurses := true, apart := false }
def StoreNewSaid : Prop := storeNewRow.holds Tryz.pinned (OpenSpec.ofChange storeNewSpec)

/-- ITS FALSE NEIGHBOUR: 'it returns false'. Refute it at one input. -/
def storeNewWrong : ChangeSpec := { name := "storeNew", fn := fun _ => fun
  | [d1, d2, d3] => { results := [.lit (.bool false)], args := [d1, d2, d3] }
  | _ => none }
def StoreNewWrongFalsely : Prop := storeNewRow.holds Tryz.pinned (OpenSpec.ofChange storeNewWrong)

/- THE SECOND FORM. 'bulk': how many values and letters a reading holds, each counted each time it is reached (what is shared counts as often as it is met; a slice's spare places count too). A statement '..UptoSaid' is the law's where the arguments, and the package variables that the reading takes, are together of bulk at most 1048576: NARROWER than '..Said'. Prove '..Said' where nothing that the law and all that it calls make is longer than what came in: it says more and counts as full. Else prove '..UptoSaid'. A law counts once. -/
mutual
def uptoBulk {H : Type} : DataW H → Nat
  | .lit (.string bytes) => bytes.length + 1
  | .lit _ => 1
  | .nil => 1
  | .ptr d => uptoBulk d + 1
  | .slice elems spare => uptoBulkAll elems + uptoBulkAll spare + 1
  | .agg parts => uptoBulkAll parts + 1
  | .iface _ d => uptoBulk d + 1
  | .map entries => uptoBulkEntries entries + 1
  | .held _ => 1
def uptoBulkAll {H : Type} : List (DataW H) → Nat
  | [] => 0
  | d :: r => uptoBulk d + uptoBulkAll r
def uptoBulkEntries {H : Type} : List (Lit × DataW H) → Nat
  | [] => 0
  | x :: r => uptoBulkEntry x + uptoBulkEntries r
def uptoBulkEntry {H : Type} : Lit × DataW H → Nat
  | (.string bytes, d) => bytes.length + uptoBulk d + 1
  | (_, d) => uptoBulk d + 1
 end
def uptoSmall : (H : Type) → List (DataW H) → Bool := fun _ ds => decide (uptoBulkAll ds ≤ 1048576)
def OpenSpec.upto (s : _root_.Go.ChangeSpec) : _root_.Go.OpenSpec := { _root_.Go.OpenSpec.ofChange s with cond := some uptoSmall }

/-- 'tagcachelaw14.StorePlays', WHERE WHAT IT READS IS OF BULK AT MOST 1048576: true; the input reads as it did. -/
def storePlaysUptoRow : OpenClaim := { program := "ytlmclpcecjhbpaagreat", sum := "eb7f5ffc4bd4d3249d3b13ed655bf59aaefc8be8e28b3f25471b5dea067304ea", func := "tagcache/tagcachelaw14.StorePlays", spec := "storePlays", inPlace := ["maps.clone"], unfollowed := true, recurses := true, apart := false, narrowed := true }
def StorePlaysUptoSaid : Prop := storePlaysUptoRow.holds Tryz.pinned (OpenSpec.upto storePlaysSpec)

/-- 'tagcachelaw14.StoreNil', WHERE WHAT IT READS IS OF BULK AT MOST 1048576: true; the input reads as it did. -/
def storeNilUptoRow : OpenClaim := { program := "ytlmclpcecjhbpaagreat", sum := "eb7f5ffc4bd4d3249d3b13ed655bf59aaefc8be8e28b3f25471b5dea067304ea", func := "tagcache/tagcachelaw14.StoreNil", spec := "storeNil", inPlace := ["maps.clone"], unfollowed := true, recurses := true, apart := false, narrowed := true }
def StoreNilUptoSaid : Prop := storeNilUptoRow.holds Tryz.pinned (OpenSpec.upto storeNilSpec)

/-- 'tagcachelaw14.StoreLongs', WHERE WHAT IT READS IS OF BULK AT MOST 1048576: true; the input reads as it did. -/
def storeLongsUptoRow : OpenClaim := { program := "ytlmclpcecjhbpaagreat", sum := "eb7f5ffc4bd4d3249d3b13ed655bf59aaefc8be8e28b3f25471b5dea067304ea", func := "tagcache/tagcachelaw14.StoreLongs", spec := "storeLongs", unfollowed := true, recurses := true, apart := false, narrowed := true }
def StoreLongsUptoSaid : Prop := storeLongsUptoRow.holds Tryz.pinned (OpenSpec.upto storeLongsSpec)

/-- 'tagcachelaw14.StoreIterates', WHERE WHAT IT READS IS OF BULK AT MOST 1048576: true; the input reads as it did. -/
def storeIteratesUptoRow : OpenClaim := { program := "ytlmclpcecjhbpaagreat", sum := "eb7f5ffc4bd4d3249d3b13ed655bf59aaefc8be8e28b3f25471b5dea067304ea", func := "tagcache/tagcachelaw14.StoreIterates", spec := "storeIterates", unfollowed := true, recurses := true, apart := false, narrowed := true }
def StoreIteratesUptoSaid : Prop := storeIteratesUptoRow.holds Tryz.pinned (OpenSpec.upto storeIteratesSpec)

/-- 'tagcachelaw14.StoreHolds', WHERE WHAT IT READS IS OF BULK AT MOST 1048576: true; the input reads as it did. -/
def storeHoldsUptoRow : OpenClaim := { program := "ytlmclpcecjhbpaagreat", sum := "eb7f5ffc4bd4d3249d3b13ed655bf59aaefc8be8e28b3f25471b5dea067304ea", func := "tagcache/tagcachelaw14.StoreHolds", spec := "storeHolds", unfollowed := true, recurses := true, apart := false, narrowed := true }
def StoreHoldsUptoSaid : Prop := storeHoldsUptoRow.holds Tryz.pinned (OpenSpec.upto storeHoldsSpec)

/-- 'tagcachelaw14.StoreNew', WHERE WHAT IT READS IS OF BULK AT MOST 1048576: true; the input reads as it did. -/
def storeNewUptoRow : OpenClaim := { program := "ytlmclpcecjhbpaagreat", sum := "eb7f5ffc4bd4d3249d3b13ed655bf59aaefc8be8e28b3f25471b5dea067304ea", func := "tagcache/tagcachelaw14.StoreNew", spec := "storeNew", unfollowed := true, recurses := true, apart := false, narrowed := true }
def StoreNewUptoSaid : Prop := storeNewUptoRow.holds Tryz.pinned (OpenSpec.upto storeNewSpec)

end Rows
end Go.Proofs.YtlmclpcecjhbpaaGreat
