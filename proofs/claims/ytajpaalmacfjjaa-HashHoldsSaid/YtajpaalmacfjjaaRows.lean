/-
  No cell of these rows narrows 'for every input' (looked for: loops, veiled, ifaces, maps, wideKeys, modest, calm, conditions, laid).
  DERIVED. THE GIVEN ROWS OF THIS SEAT. 5 by the template 'for every input the law returns true; each argument reads behind the call as it read before'; 0 by the template 'total and deterministic' (their statements: YtajpaalmacfjjaaTotals.lean).
  GIVEN WITH THE SEED: the statements are not yours to turn. If you find one false, say at which input.
  Laid BY PROGRAM, IN A SANDBOX (cutbox-rows.mjs): the forced cells as the released guide's own fill.sh prints them over the translation a46ed15fbe7c2f9d… (all of the seat's roots in one cut). By AI agents, Wed Nov 11 2026. No macro, syntax, notation, axiom, sorry.
-/
import Derived.Test.YtajpaalmacfjjaaChecked
import GoSem.Claim
import GoSem.ClaimJoined
import GoSem.ClaimMapViews
import Derived.JoinedTies
import Derived.KernelRfl
namespace Go.Proofs.Ytajpaalmacfjjaa
/- THE CELL 'sum', in the pinned program and in every row, IS THE sha256 OF THE DUMP (.gsa) THAT YtajpaalmacfjjaaProg.lean LOADS. Nothing in Lean hashes anything: it is a label: what it is worth is what the hold of that sum in a sandbox is worth. -/
noncomputable def Try.pinned : Pinned := { name := "ytajpaalmacfjjaa", sum := "a46ed15fbe7c2f9db452c338368f53bc7b73e6ee51fcc46334140437827e1b34", checked := Try.checked }
namespace Rows
def none {H : Type} : Left H := { results := [], args := [] }

/-- 'tagcachelaw01.HashMixes': WHATEVER THE INPUT: true; the input reads as it did. -/
def hashMixesSpec : ChangeSpec := { name := "hashMixes", fn := fun _ => fun
  | [d] => { results := [.lit (.bool true)], args := [d] }
  | _ => none }
def hashMixesRow : OpenClaim := { program := "ytajpaalmacfjjaa", sum := "a46ed15fbe7c2f9db452c338368f53bc7b73e6ee51fcc46334140437827e1b34", func := "tagcache/tagcachelaw01.HashMixes", spec := "hashMixes", apart := false }
def HashMixesSaid : Prop := hashMixesRow.holds Try.pinned (OpenSpec.ofChange hashMixesSpec)

/-- ITS FALSE NEIGHBOUR: 'it returns false'. Refute it at one input. -/
def hashMixesWrong : ChangeSpec := { name := "hashMixes", fn := fun _ => fun
  | [d] => { results := [.lit (.bool false)], args := [d] }
  | _ => none }
def HashMixesWrongFalsely : Prop := hashMixesRow.holds Try.pinned (OpenSpec.ofChange hashMixesWrong)

/-- 'tagcachelaw01.HashSums': WHATEVER THE INPUT: true; the input reads as it did. -/
def hashSumsSpec : ChangeSpec := { name := "hashSums", fn := fun _ => fun
  | [d1, d2] => { results := [.lit (.bool true)], args := [d1, d2] }
  | _ => none }
def hashSumsRow : OpenClaim := { program := "ytajpaalmacfjjaa", sum := "a46ed15fbe7c2f9db452c338368f53bc7b73e6ee51fcc46334140437827e1b34", func := "tagcache/tagcachelaw01.HashSums", spec := "hashSums", apart := false }
def HashSumsSaid : Prop := hashSumsRow.holds Try.pinned (OpenSpec.ofChange hashSumsSpec)

/-- ITS FALSE NEIGHBOUR: 'it returns false'. Refute it at one input. -/
def hashSumsWrong : ChangeSpec := { name := "hashSums", fn := fun _ => fun
  | [d1, d2] => { results := [.lit (.bool false)], args := [d1, d2] }
  | _ => none }
def HashSumsWrongFalsely : Prop := hashSumsRow.holds Try.pinned (OpenSpec.ofChange hashSumsWrong)

/-- 'tagcachelaw01.HashIndexes': WHATEVER THE INPUT: true; the input reads as it did. -/
def hashIndexesSpec : ChangeSpec := { name := "hashIndexes", fn := fun _ => fun
  | [d1, d2] => { results := [.lit (.bool true)], args := [d1, d2] }
  | _ => none }
def hashIndexesRow : OpenClaim := { program := "ytajpaalmacfjjaa", sum := "a46ed15fbe7c2f9db452c338368f53bc7b73e6ee51fcc46334140437827e1b34", func := "tagcache/tagcachelaw01.HashIndexes", spec := "hashIndexes", apart := false }
def HashIndexesSaid : Prop := hashIndexesRow.holds Try.pinned (OpenSpec.ofChange hashIndexesSpec)

/-- ITS FALSE NEIGHBOUR: 'it returns false'. Refute it at one input. -/
def hashIndexesWrong : ChangeSpec := { name := "hashIndexes", fn := fun _ => fun
  | [d1, d2] => { results := [.lit (.bool false)], args := [d1, d2] }
  | _ => none }
def HashIndexesWrongFalsely : Prop := hashIndexesRow.holds Try.pinned (OpenSpec.ofChange hashIndexesWrong)

/-- 'tagcachelaw01.HashPowers': WHATEVER THE INPUT: true; the input reads as it did. -/
def hashPowersSpec : ChangeSpec := { name := "hashPowers", fn := fun _ => fun
  | [d] => { results := [.lit (.bool true)], args := [d] }
  | _ => none }
def hashPowersRow : OpenClaim := { program := "ytajpaalmacfjjaa", sum := "a46ed15fbe7c2f9db452c338368f53bc7b73e6ee51fcc46334140437827e1b34", func := "tagcache/tagcachelaw01.HashPowers", spec := "hashPowers", apart := false }
def HashPowersSaid : Prop := hashPowersRow.holds Try.pinned (OpenSpec.ofChange hashPowersSpec)

/-- ITS FALSE NEIGHBOUR: 'it returns false'. Refute it at one input. -/
def hashPowersWrong : ChangeSpec := { name := "hashPowers", fn := fun _ => fun
  | [d] => { results := [.lit (.bool false)], args := [d] }
  | _ => none }
def HashPowersWrongFalsely : Prop := hashPowersRow.holds Try.pinned (OpenSpec.ofChange hashPowersWrong)

/-- 'tagcachelaw01.HashHolds': WHATEVER THE INPUT: true; the input reads as it did. -/
def hashHoldsSpec : ChangeSpec := { name := "hashHolds", fn := fun _ => fun
  | [d1, d2, d3, d4, d5] => { results := [.lit (.bool true)], args := [d1, d2, d3, d4, d5] }
  | _ => none }
def hashHoldsRow : OpenClaim := { program := "ytajpaalmacfjjaa", sum := "a46ed15fbe7c2f9db452c338368f53bc7b73e6ee51fcc46334140437827e1b34", func := "tagcache/tagcachelaw01.HashHolds", spec := "hashHolds", apart := false }
def HashHoldsSaid : Prop := hashHoldsRow.holds Try.pinned (OpenSpec.ofChange hashHoldsSpec)

/-- ITS FALSE NEIGHBOUR: 'it returns false'. Refute it at one input. -/
def hashHoldsWrong : ChangeSpec := { name := "hashHolds", fn := fun _ => fun
  | [d1, d2, d3, d4, d5] => { results := [.lit (.bool false)], args := [d1, d2, d3, d4, d5] }
  | _ => none }
def HashHoldsWrongFalsely : Prop := hashHoldsRow.holds Try.pinned (OpenSpec.ofChange hashHoldsWrong)

/- THE SECOND FORM. 'bulk': how many values and letters a reading holds, each counted each time it is reached (what is shared counts as often as it is met; a slice's spare places count too). A statement '..UptoSaid' is the law's where the arguments, and the package variables that the reading takes, are together of bulk at most 1048576: NARROWER than '..Said'. Prove '..Said' where nothing that the law and all that it calls make is longer than what came in: it says more and counts as full. Else prove '..UptoSaid'. A law counts once. -/
mutual
def uptoBulk {H : Type} : DataW H → Nat
  | .lit (.string bytes) => bytes.length + 1
  | .lit _ => 1
  | .nil => 1
  | .ptr d => uptoBulk d + 1
  | .slice elems spare => uptoBulkAll elems + uptoBulkAll spare + 1
  | .agg parts => uptoBulkAll parts + 1
  | .iface _ d => uptoBulk d + 1
  | .map entries => uptoBulkEntries entries + 1
  | .held _ => 1
def uptoBulkAll {H : Type} : List (DataW H) → Nat
  | [] => 0
  | d :: r => uptoBulk d + uptoBulkAll r
def uptoBulkEntries {H : Type} : List (Lit × DataW H) → Nat
  | [] => 0
  | x :: r => uptoBulkEntry x + uptoBulkEntries r
def uptoBulkEntry {H : Type} : Lit × DataW H → Nat
  | (.string bytes, d) => bytes.length + uptoBulk d + 1
  | (_, d) => uptoBulk d + 1
 end
def uptoSmall : (H : Type) → List (DataW H) → Bool := fun _ ds => decide (uptoBulkAll ds ≤ 1048576)
def OpenSpec.upto (s : _root_.Go.ChangeSpec) : _root_.Go.OpenSpec := { _root_.Go.OpenSpec.ofChange s with cond := some uptoSmall }

/-- 'tagcachelaw01.HashMixes', WHERE WHAT IT READS IS OF BULK AT MOST 1048576: true; the input reads as it did. -/
def hashMixesUptoRow : OpenClaim := { program := "ytajpaalmacfjjaa", sum := "a46ed15fbe7c2f9db452c338368f53bc7b73e6ee51fcc46334140437827e1b34", func := "tagcache/tagcachelaw01.HashMixes", spec := "hashMixes", apart := false, narrowed := true }
def HashMixesUptoSaid : Prop := hashMixesUptoRow.holds Try.pinned (OpenSpec.upto hashMixesSpec)

/-- 'tagcachelaw01.HashSums', WHERE WHAT IT READS IS OF BULK AT MOST 1048576: true; the input reads as it did. -/
def hashSumsUptoRow : OpenClaim := { program := "ytajpaalmacfjjaa", sum := "a46ed15fbe7c2f9db452c338368f53bc7b73e6ee51fcc46334140437827e1b34", func := "tagcache/tagcachelaw01.HashSums", spec := "hashSums", apart := false, narrowed := true }
def HashSumsUptoSaid : Prop := hashSumsUptoRow.holds Try.pinned (OpenSpec.upto hashSumsSpec)

/-- 'tagcachelaw01.HashIndexes', WHERE WHAT IT READS IS OF BULK AT MOST 1048576: true; the input reads as it did. -/
def hashIndexesUptoRow : OpenClaim := { program := "ytajpaalmacfjjaa", sum := "a46ed15fbe7c2f9db452c338368f53bc7b73e6ee51fcc46334140437827e1b34", func := "tagcache/tagcachelaw01.HashIndexes", spec := "hashIndexes", apart := false, narrowed := true }
def HashIndexesUptoSaid : Prop := hashIndexesUptoRow.holds Try.pinned (OpenSpec.upto hashIndexesSpec)

/-- 'tagcachelaw01.HashPowers', WHERE WHAT IT READS IS OF BULK AT MOST 1048576: true; the input reads as it did. -/
def hashPowersUptoRow : OpenClaim := { program := "ytajpaalmacfjjaa", sum := "a46ed15fbe7c2f9db452c338368f53bc7b73e6ee51fcc46334140437827e1b34", func := "tagcache/tagcachelaw01.HashPowers", spec := "hashPowers", apart := false, narrowed := true }
def HashPowersUptoSaid : Prop := hashPowersUptoRow.holds Try.pinned (OpenSpec.upto hashPowersSpec)

/-- 'tagcachelaw01.HashHolds', WHERE WHAT IT READS IS OF BULK AT MOST 1048576: true; the input reads as it did. -/
def hashHoldsUptoRow : OpenClaim := { program := "ytajpaalmacfjjaa", sum := "a46ed15fbe7c2f9db452c338368f53bc7b73e6ee51fcc46334140437827e1b34", func := "tagcache/tagcachelaw01.HashHolds", spec := "hashHolds", apart := false, narrowed := true }
def HashHoldsUptoSaid : Prop := hashHoldsUptoRow.holds Try.pinned (OpenSpec.upto hashHoldsSpec)

end Rows
end Go.Proofs.Ytajpaalmacfjjaa
