/- Binary heaps of deadlines: what moving one up and down leaves. -/
import Derived.Test.YtapjncdcjahlkaaBase
namespace Go.Proofs.Ytapjncdcjahlkaa
namespace Ex

/-- A slot and its deadline. -/
abbrev Cell := Int × Int
def lt (a b : Cell) : Prop := a.2 < b.2 ∨ (a.2 = b.2 ∧ a.1 < b.1)
instance (a b : Cell) : Decidable (lt a b) := by unfold lt; infer_instance
theorem le_trans {a b c : Cell} (h1 : ¬ lt a b) (h2 : ¬ lt b c) : ¬ lt a c := by unfold lt at *; omega
theorem lt_asymm {a b : Cell} (h : lt a b) : ¬ lt b a := by unfold lt at *; omega
theorem lt_trans {a b c : Cell} (h1 : lt a b) (h2 : lt b c) : lt a c := by unfold lt at *; omega
theorem lt_or {a b : Cell} (h : a.1 ≠ b.1) : lt a b ∨ lt b a := by unfold lt; omega

def par (i : Nat) : Nat := (i - 1) / 2
theorem par_lt {i : Nat} (h : 0 < i) : par i < i := by unfold par; omega
def swp (L : Nat → Cell) (i k : Nat) : Nat → Cell := fun j => if j = i then L k else if j = k then L i else L j
variable {n : Nat} {L : Nat → Cell} {i k : Nat}
theorem swp_l : swp L i k i = L k := if_pos rfl
theorem swp_r : swp L i k k = L i := by unfold swp; split <;> simp_all
theorem swp_o {j : Nat} (h1 : j ≠ i) (h2 : j ≠ k) : swp L i k j = L j := by unfold swp; rw [if_neg h1, if_neg h2]

/-- In order but for what is at i. -/
structure Off (n : Nat) (L : Nat → Cell) (i : Nat) : Prop where
  a : ∀ j, 0 < j → j < n → j ≠ i → par j ≠ i → ¬ lt (L j) (L (par j))
  b : ∀ j, 0 < j → j < n → par j = i → 0 < i → ¬ lt (L j) (L (par i))
/-- In order but for what is below i. -/
structure Low (n : Nat) (L : Nat → Cell) (i : Nat) : Prop where
  a : ∀ j, 0 < j → j < n → par j ≠ i → ¬ lt (L j) (L (par j))
  b : ∀ j, 0 < j → j < n → par j = i → 0 < i → ¬ lt (L j) (L (par i))
def Heap (n : Nat) (L : Nat → Cell) : Prop := ∀ j, 0 < j → j < n → ¬ lt (L j) (L (par j))

theorem Off.up (h : Off n L i) (hi : 0 < i) (hn : i < n) : Off n (swp L i (par i)) (par i) := by
  have hp := par_lt hi
  refine ⟨fun j h0 hj h1 h2 => ?_, fun j h0 hj h1 h2 => ?_⟩
  · have hji : j ≠ i := fun e => h2 (by rw [e])
    rw [swp_o hji h1]
    by_cases g : par j = i
    · rw [g, swp_l]
      exact h.b j h0 hj g hi
    · rw [swp_o g h2]
      exact h.a j h0 hj hji g
  · have hpp := par_lt h2
    rw [swp_o (show par (par i) ≠ i by omega) (show par (par i) ≠ par i by omega)]
    have hup : ¬ lt (L (par i)) (L (par (par i))) := h.a (par i) h2 (by omega) (by omega) (by omega)
    by_cases g : j = i
    · rw [g, swp_l]; exact hup
    · have hjp := par_lt h0
      rw [swp_o g (by omega)]
      have := h.a j h0 hj g (by omega)
      rw [h1] at this
      exact le_trans this hup
theorem Off.stop (h : Off n L i) (hs : 0 < i → ¬ lt (L i) (L (par i))) : Low n L i := by
  refine ⟨fun j h0 hj h1 => ?_, h.b⟩
  by_cases g : j = i
  · subst g; exact hs h0
  · exact h.a j h0 hj g h1
theorem Low.down (h : Low n L i) (h0 : 0 < k) (hk : k < n) (hp : par k = i) (hl : lt (L k) (L i)) (hm : ∀ s, 0 < s → s < n → par s = i → ¬ lt (L s) (L k)) : Low n (swp L i k) k := by
  have hik : i < k := by rw [← hp]; exact par_lt h0
  refine ⟨fun j h1 hj h2 => ?_, fun j h1 hj h2 _ => ?_⟩
  · by_cases e1 : j = i
    · subst e1
      have := par_lt h1
      rw [swp_l, swp_o (by omega) (by omega)]
      exact h.b k h0 hk hp h1
    · by_cases e2 : j = k
      · subst e2
        rw [swp_r, hp, swp_l]
        exact lt_asymm hl
      · rw [swp_o e1 e2]
        by_cases e3 : par j = i
        · rw [e3, swp_l]; exact hm j h1 hj e3
        · rw [swp_o e3 h2]; exact h.a j h1 hj e3
  · have hj2 := par_lt h1
    rw [swp_o (by omega) (by omega), hp, swp_l]
    have := h.a j h1 hj (by omega)
    rw [h2] at this
    exact this
theorem Low.stop (h : Low n L i) (hs : ∀ s, 0 < s → s < n → par s = i → ¬ lt (L s) (L i)) : Heap n L := fun j h0 hj => by
  by_cases g : par j = i
  · rw [g]; exact hs j h0 hj g
  · exact h.a j h0 hj g
theorem Heap.min (h : Heap n L) : ∀ j, j < n → ¬ lt (L j) (L 0) := by
  intro j
  induction j using Nat.strongRecOn with
  | ind j ih =>
    intro hj
    rcases Nat.eq_zero_or_pos j with rfl | h0
    · unfold lt; omega
    · exact le_trans (h j h0 hj) (ih (par j) (par_lt h0) (by have := par_lt h0; omega))
theorem Heap.off (h : Heap n L) (i : Nat) (c : Cell) : Off n (fun j => if j = i then c else L j) i := by
  refine ⟨fun j h0 hj h1 h2 => ?_, fun j h0 hj h1 h2 => ?_⟩
  · simp only [if_neg h1, if_neg h2]; exact h j h0 hj
  · have hp := par_lt h2
    have hj2 := par_lt h0
    simp only [if_neg (show j ≠ i by omega), if_neg (show par i ≠ i by omega)]
    have a := h j h0 hj
    rw [h1] at a
    exact le_trans a (h i h2 (by omega))
theorem Heap.push (h : Heap n L) (c : Cell) : Off (n + 1) (fun j => if j = n then c else L j) n := by
  refine ⟨fun j h0 hj h1 h2 => ?_, fun j h0 hj h1 h2 => ?_⟩
  · simp only [if_neg h1, if_neg h2]; exact h j h0 (by omega)
  · have hj2 := par_lt h0
    omega
end Ex
end Go.Proofs.Ytapjncdcjahlkaa
