/- Memory that is only read: what lies there, and laws over it. -/
import Derived.Test.YtagpkejbbmpcgaaSyCR
namespace Go.Proofs.Ytagpkejbbmpcgaa
open Go Go.RowKit
namespace Sy
variable {Z : Nat → Option Obj}
theorem FzAt.drop {b off : Nat} {cs : List V} (h : FzAt Z b off cs) (i : Nat) (hi : i ≤ cs.length) : FzAt Z b (off + i) (cs.drop i) := by
  obtain ⟨pre, mid, tail, T, fr, h1, h2, h3⟩ := h
  have hl : mid.length = cs.length := czl_length (h3 emptyR)
  refine ⟨pre ++ mid.take i, mid.drop i, tail, T, fr, by rw [h1, List.append_assoc pre (mid.take i), List.take_append_drop], by rw [List.length_append, List.length_take, h2]; omega, fun ρ => czl_drop i (h3 ρ)⟩
theorem FzAt.take {b off : Nat} {cs : List V} (h : FzAt Z b off cs) (i : Nat) : FzAt Z b off (cs.take i) := by
  obtain ⟨pre, mid, tail, T, fr, h1, h2, h3⟩ := h
  exact ⟨pre, mid.take i, mid.drop i ++ tail, T, fr, by rw [h1]; congr 2; rw [List.append_assoc pre, List.append_assoc pre, ← List.append_assoc (mid.take i), List.take_append_drop], h2, fun ρ => czl_take i (h3 ρ)⟩
theorem FzRow.at_ {p : Option (Nat × Nat)} {sz m : Nat} {g : Nat → List V} (h : FzRow Z p sz g m) {k : Nat} (hk : k < m) : ∃ b off, p = some (b, off) ∧ FzAt Z b (off + k * sz) (g k) := by
  obtain ⟨hok, h⟩ := h
  rcases h with h | ⟨b, off, hp, h⟩
  · omega
  obtain ⟨A, B, e1, e2⟩ := rowL_at (fun q hq => (hok q hq).1) hk
  rw [e1] at h
  have h1 := h.drop (k * sz) (by rw [List.length_append, List.length_append, e2]; omega)
  rw [List.append_assoc, List.drop_left' e2] at h1
  have h2 := h1.take (g k).length
  rw [List.take_left' rfl] at h2
  exact ⟨b, off, hp, h2⟩
theorem FzRow.len {p : Option (Nat × Nat)} {sz m n : Nat} {g : Nat → List V} (h : FzRow Z p sz g m) (hn : n ≤ m) : FzRow Z p sz g n := by
  obtain ⟨hok, h⟩ := h
  refine ⟨fun j hj => hok j (by omega), ?_⟩
  rcases h with h | ⟨b, off, hp, h⟩
  · exact .inl (by omega)
  refine .inr ⟨b, off, hp, ?_⟩
  have hs := rowL_split g n (m - n)
  rw [show n + (m - n) = m by omega] at hs
  rw [hs] at h
  have := h.take (rowL g n).length
  rwa [List.take_left' rfl] at this
section
variable {P : Program} {w : World} {v : Value}
theorem RoArg.fz {n sz : Nat} {f : Nat → List V} (h : RoArg w v n f sz) (hsz : 1 ≤ sz) (hok : RowOk n f sz) : ∃ p cap, (∀ i ρ, cz ρ (.zsl i p sz n cap) = some v) ∧ n ≤ cap ∧ FzRow (fun b => w.heap[b]?) p sz f n := by
  rcases h.at_ with rfl | ⟨b, off, cap, arr, e, fr, rfl, hcap, hheap, hel⟩
  · have hn := h.nil rfl
    subst hn
    exact ⟨none, 0, fun _ _ => rfl, Nat.le_refl _, hok, .inl rfl⟩
  · refine ⟨some (b, off), cap, fun _ _ => rfl, hcap, hok, ?_⟩
    rcases Nat.eq_zero_or_pos n with hn | hn
    · exact .inl hn
    · obtain ⟨pre, l', tail, h1, h2, h3, _⟩ := rows_ro hel hsz n (Nat.le_refl n) hn
      exact .inr ⟨b, off, rfl, pre, l', tail, e, fr, by show w.heap[b]? = _; rw [hheap, ← h2], h3, fun ρ => czl_ext (empE ρ) _ h1⟩
end
end Sy
end Go.Proofs.Ytagpkejbbmpcgaa
