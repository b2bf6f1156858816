/-
  No cell of these rows narrows 'for every input' (looked for: loops, veiled, ifaces, maps, wideKeys, modest, calm, conditions, laid).
  DERIVED. THE GIVEN ROWS OF THIS SEAT. 5 by the template 'for every input the law returns true; each argument reads behind the call as it read before'; 0 by the template 'total and deterministic' (their statements: YtngggdlcanpfgaaTotals.lean).
  GIVEN WITH THE SEED: the statements are not yours to turn. If you find one false, say at which input.
  Laid BY PROGRAM, IN A SANDBOX (cutbox-rows.mjs): the forced cells as the released guide's own fill.sh prints them over the translation dd8b5a7e1d1a4a6e… (all of the seat's roots in one cut). By AI agents, Wed Nov 11 2026. No macro, syntax, notation, axiom, sorry.
-/
import Derived.Test.YtngggdlcanpfgaaChecked
import GoSem.Claim
import GoSem.ClaimJoined
import GoSem.ClaimMapViews
import Derived.JoinedTies
import Derived.KernelRfl
namespace Go.Proofs.Ytngggdlcanpfgaa
/- THE CELL 'sum', in the pinned program and in every row, IS THE sha256 OF THE DUMP (.gsa) THAT YtngggdlcanpfgaaProg.lean LOADS. Nothing in Lean hashes anything: it is a label: what it is worth is what the hold of that sum in a sandbox is worth. -/
noncomputable def Try.pinned : Pinned := { name := "ytngggdlcanpfgaa", sum := "dd8b5a7e1d1a4a6e4e670e37672139560660fda8847a1ed0a82429715668c271", checked := Try.checked }
namespace Rows
def none {H : Type} : Left H := { results := [], args := [] }

/-- 'tagcachelaw20.TrieLooks': WHATEVER THE INPUT: true; the input reads as it did. -/
def trieLooksSpec : ChangeSpec := { name := "trieLooks", fn := fun _ => fun
  | [d1, d2, d3] => { results := [.lit (.bool true)], args := [d1, d2, d3] }
  | _ => none }
def trieLooksRow : OpenClaim := { program := "ytngggdlcanpfgaa", sum := "dd8b5a7e1d1a4a6e4e670e37672139560660fda8847a1ed0a82429715668c271", func := "tagcache/tagcachelaw20.TrieLooks", spec := "trieLooks", inPlace := ["slices.overlaps[*tagcache/trie.node]"], unfollowed := true, recurses := true, apart := false }
def TrieLooksSaid : Prop := trieLooksRow.holds Try.pinned (OpenSpec.ofChange trieLooksSpec)

/-- ITS FALSE NEIGHBOUR: 'it returns false'. Refute it at one input. -/
def trieLooksWrong : ChangeSpec := { name := "trieLooks", fn := fun _ => fun
  | [d1, d2, d3] => { results := [.lit (.bool false)], args := [d1, d2, d3] }
  | _ => none }
def TrieLooksWrongFalsely : Prop := trieLooksRow.holds Try.pinned (OpenSpec.ofChange trieLooksWrong)

/-- 'tagcachelaw20.TrieLong': WHATEVER THE INPUT: true; the input reads as it did. -/
def trieLongSpec : ChangeSpec := { name := "trieLong", fn := fun _ => fun
  | [d1, d2] => { results := [.lit (.bool true)], args := [d1, d2] }
  | _ => none }
def trieLongRow : OpenClaim := { program := "ytngggdlcanpfgaa", sum := "dd8b5a7e1d1a4a6e4e670e37672139560660fda8847a1ed0a82429715668c271", func := "tagcache/tagcachelaw20.TrieLong", spec := "trieLong", inPlace := ["slices.overlaps[*tagcache/trie.node]"], unfollowed := true, recurses := true, apart := false }
def TrieLongSaid : Prop := trieLongRow.holds Try.pinned (OpenSpec.ofChange trieLongSpec)

/-- ITS FALSE NEIGHBOUR: 'it returns false'. Refute it at one input. -/
def trieLongWrong : ChangeSpec := { name := "trieLong", fn := fun _ => fun
  | [d1, d2] => { results := [.lit (.bool false)], args := [d1, d2] }
  | _ => none }
def TrieLongWrongFalsely : Prop := trieLongRow.holds Try.pinned (OpenSpec.ofChange trieLongWrong)

/-- 'tagcachelaw20.TrieHolds': WHATEVER THE INPUT: true; the input reads as it did. -/
def trieHoldsSpec : ChangeSpec := { name := "trieHolds", fn := fun _ => fun
  | [d1, d2] => { results := [.lit (.bool true)], args := [d1, d2] }
  | _ => none }
def trieHoldsRow : OpenClaim := { program := "ytngggdlcanpfgaa", sum := "dd8b5a7e1d1a4a6e4e670e37672139560660fda8847a1ed0a82429715668c271", func := "tagcache/tagcachelaw20.TrieHolds", spec := "trieHolds", inPlace := ["slices.overlaps[*tagcache/trie.node]"], unfollowed := true, recurses := true, apart := false }
def TrieHoldsSaid : Prop := trieHoldsRow.holds Try.pinned (OpenSpec.ofChange trieHoldsSpec)

/-- ITS FALSE NEIGHBOUR: 'it returns false'. Refute it at one input. -/
def trieHoldsWrong : ChangeSpec := { name := "trieHolds", fn := fun _ => fun
  | [d1, d2] => { results := [.lit (.bool false)], args := [d1, d2] }
  | _ => none }
def TrieHoldsWrongFalsely : Prop := trieHoldsRow.holds Try.pinned (OpenSpec.ofChange trieHoldsWrong)

/-- 'tagcachelaw20.TriePlays': WHATEVER THE INPUT: true; the input reads as it did. -/
def triePlaysSpec : ChangeSpec := { name := "triePlays", fn := fun _ => fun
  | [d1, d2] => { results := [.lit (.bool true)], args := [d1, d2] }
  | _ => none }
def triePlaysRow : OpenClaim := { program := "ytngggdlcanpfgaa", sum := "dd8b5a7e1d1a4a6e4e670e37672139560660fda8847a1ed0a82429715668c271", func := "tagcache/tagcachelaw20.TriePlays", spec := "triePlays", inPlace := ["slices.overlaps[*tagcache/trie.node]"], unfollowed := true, recurses := true, apart := false }
def TriePlaysSaid : Prop := triePlaysRow.holds Try.pinned (OpenSpec.ofChange triePlaysSpec)

/-- ITS FALSE NEIGHBOUR: 'it returns false'. Refute it at one input. -/
def triePlaysWrong : ChangeSpec := { name := "triePlays", fn := fun _ => fun
  | [d1, d2] => { results := [.lit (.bool false)], args := [d1, d2] }
  | _ => none }
def TriePlaysWrongFalsely : Prop := triePlaysRow.holds Try.pinned (OpenSpec.ofChange triePlaysWrong)

/-- 'tagcachelaw20.TrieNil': WHATEVER THE INPUT: true; the input reads as it did. -/
def trieNilSpec : ChangeSpec := { name := "trieNil", fn := fun _ => fun
  | [d1, d2] => { results := [.lit (.bool true)], args := [d1, d2] }
  | _ => none }
def trieNilRow : OpenClaim := { program := "ytngggdlcanpfgaa", sum := "dd8b5a7e1d1a4a6e4e670e37672139560660fda8847a1ed0a82429715668c271", func := "tagcache/tagcachelaw20.TrieNil", spec := "trieNil", inPlace := ["slices.overlaps[*tagcache/trie.node]"], unfollowed := true, recurses := true, apart := false }
def TrieNilSaid : Prop := trieNilRow.holds Try.pinned (OpenSpec.ofChange trieNilSpec)

/-- ITS FALSE NEIGHBOUR: 'it returns false'. Refute it at one input. -/
def trieNilWrong : ChangeSpec := { name := "trieNil", fn := fun _ => fun
  | [d1, d2] => { results := [.lit (.bool false)], args := [d1, d2] }
  | _ => none }
def TrieNilWrongFalsely : Prop := trieNilRow.holds Try.pinned (OpenSpec.ofChange trieNilWrong)

/- THE SECOND FORM. 'bulk': how many values and letters a reading holds, each counted each time it is reached (what is shared counts as often as it is met; a slice's spare places count too). A statement '..UptoSaid' is the law's where the arguments, and the package variables that the reading takes, are together of bulk at most 1048576: NARROWER than '..Said'. Prove '..Said' where nothing that the law and all that it calls make is longer than what came in: it says more and counts as full. Else prove '..UptoSaid'. A law counts once. -/
mutual
def uptoBulk {H : Type} : DataW H → Nat
  | .lit (.string bytes) => bytes.length + 1
  | .lit _ => 1
  | .nil => 1
  | .ptr d => uptoBulk d + 1
  | .slice elems spare => uptoBulkAll elems + uptoBulkAll spare + 1
  | .agg parts => uptoBulkAll parts + 1
  | .iface _ d => uptoBulk d + 1
  | .map entries => uptoBulkEntries entries + 1
  | .held _ => 1
def uptoBulkAll {H : Type} : List (DataW H) → Nat
  | [] => 0
  | d :: r => uptoBulk d + uptoBulkAll r
def uptoBulkEntries {H : Type} : List (Lit × DataW H) → Nat
  | [] => 0
  | x :: r => uptoBulkEntry x + uptoBulkEntries r
def uptoBulkEntry {H : Type} : Lit × DataW H → Nat
  | (.string bytes, d) => bytes.length + uptoBulk d + 1
  | (_, d) => uptoBulk d + 1
 end
def uptoSmall : (H : Type) → List (DataW H) → Bool := fun _ ds => decide (uptoBulkAll ds ≤ 1048576)
def OpenSpec.upto (s : _root_.Go.ChangeSpec) : _root_.Go.OpenSpec := { _root_.Go.OpenSpec.ofChange s with cond := some uptoSmall }

/-- 'tagcachelaw20.TrieLooks', WHERE WHAT IT READS IS OF BULK AT MOST 1048576: true; the input reads as it did. -/
def trieLooksUptoRow : OpenClaim := { program := "ytngggdlcanpfgaa", sum := "dd8b5a7e1d1a4a6e4e670e37672139560660fda8847a1ed0a82429715668c271", func := "tagcache/tagcachelaw20.TrieLooks", spec := "trieLooks", inPlace := ["slices.overlaps[*tagcache/trie.node]"], unfollowed := true, recurses := true, apart := false, narrowed := true }
def TrieLooksUptoSaid : Prop := trieLooksUptoRow.holds Try.pinned (OpenSpec.upto trieLooksSpec)

/-- 'tagcachelaw20.TrieLong', WHERE WHAT IT READS IS OF BULK AT MOST 1048576: true; the input reads as it did. -/
def trieLongUptoRow : OpenClaim := { program := "ytngggdlcanpfgaa", sum := "dd8b5a7e1d1a4a6e4e670e37672139560660fda8847a1ed0a82429715668c271", func := "tagcache/tagcachelaw20.TrieLong", spec := "trieLong", inPlace := ["slices.overlaps[*tagcache/trie.node]"], unfollowed := true, recurses := true, apart := false, narrowed := true }
def TrieLongUptoSaid : Prop := trieLongUptoRow.holds Try.pinned (OpenSpec.upto trieLongSpec)

/-- 'tagcachelaw20.TrieHolds', WHERE WHAT IT READS IS OF BULK AT MOST 1048576: true; the input reads as it did. -/
def trieHoldsUptoRow : OpenClaim := { program := "ytngggdlcanpfgaa", sum := "dd8b5a7e1d1a4a6e4e670e37672139560660fda8847a1ed0a82429715668c271", func := "tagcache/tagcachelaw20.TrieHolds", spec := "trieHolds", inPlace := ["slices.overlaps[*tagcache/trie.node]"], unfollowed := true, recurses := true, apart := false, narrowed := true }
def TrieHoldsUptoSaid : Prop := trieHoldsUptoRow.holds Try.pinned (OpenSpec.upto trieHoldsSpec)

/-- 'tagcachelaw20.TriePlays', WHERE WHAT IT READS IS OF BULK AT MOST 1048576: true; the input reads as it did. -/
def triePlaysUptoRow : OpenClaim := { program := "ytngggdlcanpfgaa", sum := "dd8b5a7e1d1a4a6e4e670e37672139560660fda8847a1ed0a82429715668c271", func := "tagcache/tagcachelaw20.TriePlays", spec := "triePlays", inPlace := ["slices.overlaps[*tagcache/trie.node]"], unfollowed := true, recurses := true, apart := false, narrowed := true }
def TriePlaysUptoSaid : Prop := triePlaysUptoRow.holds Try.pinned (OpenSpec.upto triePlaysSpec)

/-- 'tagcachelaw20.TrieNil', WHERE WHAT IT READS IS OF BULK AT MOST 1048576: true; the input reads as it did. -/
def trieNilUptoRow : OpenClaim := { program := "ytngggdlcanpfgaa", sum := "dd8b5a7e1d1a4a6e4e670e37672139560660fda8847a1ed0a82429715668c271", func := "tagcache/tagcachelaw20.TrieNil", spec := "trieNil", inPlace := ["slices.overlaps[*tagcache/trie.node]"], unfollowed := true, recurses := true, apart := false, narrowed := true }
def TrieNilUptoSaid : Prop := trieNilUptoRow.holds Try.pinned (OpenSpec.upto trieNilSpec)

end Rows
end Go.Proofs.Ytngggdlcanpfgaa
