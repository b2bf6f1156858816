/- What the law's functions of the epochs compute: stamp, few, is, step. -/
import Derived.Test.YtagpkejbbmpcgaaEpKnownR
import Derived.Test.YtagpkejbbmpcgaaEpRefR
namespace Go.Proofs.Ytagpkejbbmpcgaa
open Go Go.RowKit Sy Ti
set_option maxRecDepth 100000
set_option maxHeartbeats 8000000

abbrev ActP := Int × Bs × Int
def ap0 : ActP := (0, eS, 0)
def apC (a : ActP) : List V := [i64 a.1, .str a.2.1, u64 a.2.2]
theorem of_step {x : Int} (h : 0 < x) : ¬ x ≤ IntKind.u64.wrap (x - 1) := by
  have : IntKind.u64.wrap (x - 1) = (x - 1) % 18446744073709551616 := by simp [IntKind.wrap, IntKind.bits, IntKind.signed]
  rw [this]
  omega
/-- What is kept from call to call. -/
structure EInv (f l : Int) (m : List Pr) (k : Nat) : Prop where
  rt : RightP f l m
  f0 : 0 ≤ f
  l1 : l < 18446744073709551616
  len : m.length ≤ k
theorem EInv.l0 {f l : Int} {m : List Pr} {k : Nat} (h : EInv f l m k) : 0 ≤ l := by have := h.rt.le; have := h.f0; omega
theorem EInv.up {f l : Int} {m : List Pr} {k k' : Nat} (h : EInv f l m k) (hk : k ≤ k') : EInv f l m k' := ⟨h.rt, h.f0, h.l1, Nat.le_trans h.len hk⟩
end Go.Proofs.Ytagpkejbbmpcgaa
