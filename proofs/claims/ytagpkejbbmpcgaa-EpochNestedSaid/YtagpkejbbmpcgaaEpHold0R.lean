/- Epochs after purges: plain; few over memory that is only read. -/
import Derived.Test.YtagpkejbbmpcgaaEpLawR
import Derived.Test.YtagpkejbbmpcgaaSyZR
namespace Go.Proofs.Ytagpkejbbmpcgaa
open Go Go.RowKit Sy Ti
set_option maxRecDepth 100000
set_option maxHeartbeats 8000000

theorem maxE_is {m : List Pr} {t : Bs} (ht : t.size ≤ 250) : 0 ≤ maxE m t ∧ (∀ x ∈ m, Pre x.1 t → x.2 ≤ maxE m t) ∧ (maxE m t = 0 ∨ ∃ x ∈ m, Pre x.1 t ∧ x.2 = maxE m t) := by
  unfold maxE
  rw [if_pos ht]
  exact maxL_is
theorem mmI_max (a b : Int) : mmI false a b = if a < b then b else a := by
  unfold mmI
  rw [if_neg (by decide)]
def ZS (Z : Nat → Option Obj) (p : Option (Nat × Nat)) (l : List Bs) : Prop := FzRow Z p 1 (fun j => [.str (l.getD j eS)]) l.length
theorem ZS.at_ {Z : Nat → Option Obj} {p : Option (Nat × Nat)} {l : List Bs} (h : ZS Z p l) {k : Nat} (hk : k < l.length) : ∃ b off, p = some (b, off) ∧ FzAt Z b (off + k * 1) [.str (l.getD k eS)] := FzRow.at_ h hk
def ZA (Z : Nat → Option Obj) (p : Option (Nat × Nat)) (l : List ActP) : Prop := FzRow Z p 3 (fun j => apC (l.getD j ap0)) l.length
theorem ZA.at_ {Z : Nat → Option Obj} {p : Option (Nat × Nat)} {l : List ActP} (h : ZA Z p l) {k : Nat} (hk : k < l.length) : ∃ b off, p = some (b, off) ∧ FzAt Z b (off + k * 3) (apC (l.getD k ap0)) ∧ FzAt Z b (off + k * 3 + 1) [.str (l.getD k ap0).2.1, u64 (l.getD k ap0).2.2] := by
  obtain ⟨b, off, hp, hat⟩ := FzRow.at_ h hk
  exact ⟨b, off, hp, hat, hat.drop 1 (by show 1 ≤ 3; omega)⟩
end Go.Proofs.Ytagpkejbbmpcgaa
