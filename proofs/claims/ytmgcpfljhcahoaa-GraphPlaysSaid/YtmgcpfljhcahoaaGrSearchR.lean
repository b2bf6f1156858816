/- A search in the order of levels, plain. -/
import Derived.Test.YtmgcpfljhcahoaaGrMath2R
namespace Go.Proofs.Ytmgcpfljhcahoaa
open Go.RowKit Tb
namespace Gr

def hasB (l : List Bs) (k : Bs) : Bool := l.any fun x => decide (x = k)
theorem hasB_iff {l : List Bs} {k : Bs} : hasB l k = true ↔ k ∈ l := by
  unfold hasB
  rw [List.any_eq_true]
  exact ⟨fun ⟨x, h1, h2⟩ => of_decide_eq_true h2 ▸ h1, fun h => ⟨k, h, decide_eq_true rfl⟩⟩
/-- The children of one key are looked at. -/
def goC (to : Bs) : List Bs → List Bs → Nat → Bool × List Bs × Nat
  | [], line, n => (false, line, n)
  | k :: l, line, n => if k = to then (true, line, n + 1) else goC to l (if hasB line k = true then line else line ++ [k]) (n + 1)
def goL (ch : Bs → List Bs) (to : Bs) : Nat → Nat → List Bs → Nat → Bool × Nat
  | 0, _, _, n => (false, n)
  | f + 1, i, line, n => if i < line.length then (match (goC to (ch (line.getD i ByteArray.empty)) line n).1 with
    | true => (true, (goC to (ch (line.getD i ByteArray.empty)) line n).2.2)
    | false => goL ch to f (i + 1) (goC to (ch (line.getD i ByteArray.empty)) line n).2.1 (goC to (ch (line.getD i ByteArray.empty)) line n).2.2) else (false, n)
def fuel : Nat := 200000
def srch (ch : Bs → List Bs) (a b : Bs) : Bool × Nat := goL ch b fuel 0 [a] 0
variable {ch : Bs → List Bs} {to : Bs}
theorem goC_ge : ∀ (l line : List Bs) (n : Nat), n ≤ (goC to l line n).2.2
  | [], _, _ => Nat.le_refl _
  | k :: l, line, n => by
    unfold goC
    split
    · exact Nat.le_succ n
    · exact Nat.le_trans (Nat.le_succ n) (goC_ge l _ _)
theorem goC_gt {k : Bs} {l line : List Bs} {n : Nat} : n < (goC to (k :: l) line n).2.2 := by
  unfold goC
  split
  · exact Nat.lt_succ_self n
  · exact goC_ge l _ (n + 1)
theorem goC_hit {k : Bs} {l line : List Bs} {n : Nat} (h : k = to) : goC to (k :: l) line n = (true, line, n + 1) := by
  unfold goC; rw [if_pos h]
theorem goC_miss {k : Bs} {l line : List Bs} {n : Nat} (h : k ≠ to) : goC to (k :: l) line n = goC to l (if hasB line k = true then line else line ++ [k]) (n + 1) := by
  rw [goC]; rw [if_neg h]
theorem goL_ge : ∀ (f i : Nat) (line : List Bs) (n : Nat), n ≤ (goL ch to f i line n).2
  | 0, _, _, _ => Nat.le_refl _
  | f + 1, i, line, n => by
    rw [goL]
    split
    · have h := goC_ge (to := to) (ch (line.getD i ByteArray.empty)) line n
      split
      · exact h
      · exact Nat.le_trans h (goL_ge f _ _ _)
    · exact Nat.le_refl _
/-- What is left of a search while the children of one key are looked at. -/
def goM (ch : Bs → List Bs) (to : Bs) (f i : Nat) (l line : List Bs) (n : Nat) : Bool × Nat := match (goC to l line n).1 with
  | true => (true, (goC to l line n).2.2)
  | false => goL ch to f (i + 1) (goC to l line n).2.1 (goC to l line n).2.2
theorem goL_in {f i : Nat} {line : List Bs} {n : Nat} (h : i < line.length) : goL ch to (f + 1) i line n = goM ch to f i (ch (line.getD i ByteArray.empty)) line n := by
  rw [goL, if_pos h]; rfl
theorem goL_out {f i : Nat} {line : List Bs} {n : Nat} (h : ¬ i < line.length) : goL ch to f i line n = (false, n) := by
  cases f with
  | zero => rfl
  | succ f => rw [goL, if_neg h]
theorem goM_nil {f i : Nat} {line : List Bs} {n : Nat} : goM ch to f i [] line n = goL ch to f (i + 1) line n := rfl
theorem goM_hit {f i : Nat} {k : Bs} {l line : List Bs} {n : Nat} (h : k = to) : goM ch to f i (k :: l) line n = (true, n + 1) := by
  unfold goM; rw [goC_hit h]
theorem goM_miss {f i : Nat} {k : Bs} {l line : List Bs} {n : Nat} (h : k ≠ to) : goM ch to f i (k :: l) line n = goM ch to f i l (if hasB line k = true then line else line ++ [k]) (n + 1) := by
  unfold goM; rw [goC_miss h]
theorem goM_gt {f i : Nat} {k : Bs} {l line : List Bs} {n : Nat} : n < (goM ch to f i (k :: l) line n).2 := by
  have h := goC_gt (to := to) (k := k) (l := l) (line := line) (n := n)
  unfold goM
  split
  · exact h
  · exact Nat.lt_of_lt_of_le h (goL_ge ..)
end Gr
end Go.Proofs.Ytmgcpfljhcahoaa
