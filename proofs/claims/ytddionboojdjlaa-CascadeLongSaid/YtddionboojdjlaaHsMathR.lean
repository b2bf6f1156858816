/- Binary heaps of strings: what moving one up and down leaves. -/
import Derived.Test.YtddionboojdjlaaGrRelR
namespace Go.Proofs.Ytddionboojdjlaa
open Sy Gr
namespace Hs

abbrev Cell := Bs
def lt (a b : Cell) : Prop := strLt a b = true
instance (a b : Cell) : Decidable (lt a b) := by unfold lt; infer_instance
theorem lt_asymm {a b : Cell} (h : lt a b) : ¬ lt b a := lt_as h
theorem lt_trans {a b c : Cell} (h1 : lt a b) (h2 : lt b c) : lt a c := lt_tr h1 h2
theorem lt_self (a : Cell) : ¬ lt a a := lt_irr a
theorem le_trans {a b c : Cell} (h1 : ¬ lt a b) (h2 : ¬ lt b c) : ¬ lt a c := fun h => by
  by_cases e : lt b a
  · exact h2 (lt_trans e h)
  · rw [lt_tri h1 e] at h
    exact h2 h

def par (i : Nat) : Nat := (i - 1) / 2
theorem par_lt {i : Nat} (h : 0 < i) : par i < i := by unfold par; omega
def swp (L : Nat → Cell) (i k : Nat) : Nat → Cell := fun j => if j = i then L k else if j = k then L i else L j
variable {n : Nat} {L : Nat → Cell} {i k : Nat}
theorem swp_l : swp L i k i = L k := if_pos rfl
theorem swp_r : swp L i k k = L i := by unfold swp; split <;> simp_all
theorem swp_o {j : Nat} (h1 : j ≠ i) (h2 : j ≠ k) : swp L i k j = L j := by unfold swp; rw [if_neg h1, if_neg h2]

/-- In order but for what is at i. -/
structure Off (n : Nat) (L : Nat → Cell) (i : Nat) : Prop where
  a : ∀ j, 0 < j → j < n → j ≠ i → par j ≠ i → ¬ lt (L j) (L (par j))
  b : ∀ j, 0 < j → j < n → par j = i → 0 < i → ¬ lt (L j) (L (par i))
/-- In order but for what is below i. -/
structure Low (n : Nat) (L : Nat → Cell) (i : Nat) : Prop where
  a : ∀ j, 0 < j → j < n → par j ≠ i → ¬ lt (L j) (L (par j))
  b : ∀ j, 0 < j → j < n → par j = i → 0 < i → ¬ lt (L j) (L (par i))
def Heap (n : Nat) (L : Nat → Cell) : Prop := ∀ j, 0 < j → j < n → ¬ lt (L j) (L (par j))

theorem Off.up (h : Off n L i) (hi : 0 < i) (hn : i < n) : Off n (swp L i (par i)) (par i) := by
  have hp := par_lt hi
  refine ⟨fun j h0 hj h1 h2 => ?_, fun j h0 hj h1 h2 => ?_⟩
  · have hji : j ≠ i := fun e => h2 (by rw [e])
    rw [swp_o hji h1]
    by_cases g : par j = i
    · rw [g, swp_l]
      exact h.b j h0 hj g hi
    · rw [swp_o g h2]
      exact h.a j h0 hj hji g
  · have hpp := par_lt h2
    rw [swp_o (show par (par i) ≠ i by omega) (show par (par i) ≠ par i by omega)]
    have hup : ¬ lt (L (par i)) (L (par (par i))) := h.a (par i) h2 (by omega) (by omega) (by omega)
    by_cases g : j = i
    · rw [g, swp_l]; exact hup
    · have hjp := par_lt h0
      rw [swp_o g (by omega)]
      have := h.a j h0 hj g (by omega)
      rw [h1] at this
      exact le_trans this hup
theorem Off.stop (h : Off n L i) (hs : 0 < i → ¬ lt (L i) (L (par i))) : Low n L i := by
  refine ⟨fun j h0 hj h1 => ?_, h.b⟩
  by_cases g : j = i
  · subst g; exact hs h0
  · exact h.a j h0 hj g h1
theorem Low.down (h : Low n L i) (h0 : 0 < k) (hk : k < n) (hp : par k = i) (hl : lt (L k) (L i)) (hm : ∀ s, 0 < s → s < n → par s = i → ¬ lt (L s) (L k)) : Low n (swp L i k) k := by
  have hik : i < k := by rw [← hp]; exact par_lt h0
  refine ⟨fun j h1 hj h2 => ?_, fun j h1 hj h2 _ => ?_⟩
  · by_cases e1 : j = i
    · subst e1
      have := par_lt h1
      rw [swp_l, swp_o (by omega) (by omega)]
      exact h.b k h0 hk hp h1
    · by_cases e2 : j = k
      · subst e2
        rw [swp_r, hp, swp_l]
        exact lt_asymm hl
      · rw [swp_o e1 e2]
        by_cases e3 : par j = i
        · rw [e3, swp_l]; exact hm j h1 hj e3
        · rw [swp_o e3 h2]; exact h.a j h1 hj e3
  · have hj2 := par_lt h1
    rw [swp_o (by omega) (by omega), hp, swp_l]
    have := h.a j h1 hj (by omega)
    rw [h2] at this
    exact this
theorem Low.stop (h : Low n L i) (hs : ∀ s, 0 < s → s < n → par s = i → ¬ lt (L s) (L i)) : Heap n L := fun j h0 hj => by
  by_cases g : par j = i
  · rw [g]; exact hs j h0 hj g
  · exact h.a j h0 hj g
theorem Heap.min (h : Heap n L) : ∀ j, j < n → ¬ lt (L j) (L 0) := by
  intro j
  induction j using Nat.strongRecOn with
  | ind j ih =>
    intro hj
    rcases Nat.eq_zero_or_pos j with rfl | h0
    · exact lt_self _
    · exact le_trans (h j h0 hj) (ih (par j) (par_lt h0) (by have := par_lt h0; omega))
theorem Heap.off (h : Heap n L) (i : Nat) (c : Cell) : Off n (fun j => if j = i then c else L j) i := by
  refine ⟨fun j h0 hj h1 h2 => ?_, fun j h0 hj h1 h2 => ?_⟩
  · simp only [if_neg h1, if_neg h2]; exact h j h0 hj
  · have hp := par_lt h2
    have hj2 := par_lt h0
    simp only [if_neg (show j ≠ i by omega), if_neg (show par i ≠ i by omega)]
    have a := h j h0 hj
    rw [h1] at a
    exact le_trans a (h i h2 (by omega))
theorem Heap.push (h : Heap n L) (c : Cell) : Off (n + 1) (fun j => if j = n then c else L j) n := by
  refine ⟨fun j h0 hj h1 h2 => ?_, fun j h0 hj h1 h2 => ?_⟩
  · simp only [if_neg h1, if_neg h2]; exact h j h0 (by omega)
  · have hj2 := par_lt h0
    omega
/-! What a heap holds -/
def hl (n : Nat) (L : Nat → Cell) : List Cell := (List.range n).map L
theorem hl_len : (hl n L).length = n := by unfold hl; rw [List.length_map, List.length_range]
theorem hl_get {j : Nat} (h : j < (hl n L).length) : (hl n L)[j] = L j := by simp [hl]
theorem hl_mem {x : Cell} : x ∈ hl n L ↔ ∃ j, j < n ∧ L j = x := by
  unfold hl
  simp only [List.mem_map, List.mem_range]
theorem hl_succ : hl (n + 1) L = hl n L ++ [L n] := by unfold hl; rw [List.range_succ, List.map_append]; rfl
theorem hl_congr {L' : Nat → Cell} (h : ∀ j, j < n → L j = L' j) : hl n L = hl n L' := by
  unfold hl
  exact List.map_congr_left fun j hj => h j (List.mem_range.1 hj)
theorem hl_swp (hi : i < n) (hk : k < n) : (hl n (swp L i k)).Perm (hl n L) := by
  have e : hl n (swp L i k) = ((hl n L).toArray.swap i k (by simpa [hl_len] using hi) (by simpa [hl_len] using hk)).toList := by
    apply List.ext_getElem
    · simp [hl_len]
    · intro j h1 h2
      rw [hl_get, Array.getElem_toList, Array.getElem_swap]
      unfold swp
      simp only [List.getElem_toArray, hl_get]
  rw [e]
  exact (Array.swap_perm ..).toList
theorem hl_push {c : Cell} : (hl (n + 1) (fun j => if j = n then c else L j)).Perm (c :: hl n L) := by
  rw [hl_succ, if_pos rfl, hl_congr (L' := L) fun j hj => if_neg (by omega)]
  exact List.perm_append_singleton _ _
/-- What is put at the end and moved up. -/
structure Up (n : Nat) (L : Nat → Cell) (i : Nat) : Prop where
  a : ∀ j, 0 < j → j < n → j ≠ i → ¬ lt (L j) (L (par j))
  b : ∀ j, 0 < j → j < n → par j = i → 0 < i → ¬ lt (L j) (L (par i))
theorem Up.off (h : Up n L i) : Off n L i := ⟨fun j h0 hj h1 _ => h.a j h0 hj h1, h.b⟩
theorem Off.up2 (h : Off n L i) (hi : 0 < i) (hn : i < n) (hl : lt (L i) (L (par i))) : Up n (swp L i (par i)) (par i) := by
  refine ⟨fun j h0 hj h1 => ?_, (h.up hi hn).b⟩
  by_cases g : par j = par i
  · rw [g, swp_r]
    by_cases e : j = i
    · rw [e, swp_l]; exact lt_asymm hl
    · rw [swp_o e h1]
      have := par_lt hi
      have a := h.a j h0 hj e (by omega)
      rw [g] at a
      exact le_trans a (lt_asymm hl)
  · exact (h.up hi hn).a j h0 hj h1 g
theorem Up.stop (h : Up n L i) (hs : 0 < i → ¬ lt (L i) (L (par i))) : Heap n L := fun j h0 hj => by
  by_cases g : j = i
  · subst g; exact hs h0
  · exact h.a j h0 hj g
theorem Heap.less (h : Heap (n + 1) L) : Heap n L := fun j h0 hj => h j h0 (by omega)

theorem Heap.pushUp {c : Cell} (h : Heap n L) : Up (n + 1) (fun j => if j = n then c else L j) n := by
  refine ⟨fun j h0 hj h1 => ?_, fun j h0 hj h1 h2 => ?_⟩
  · have hp := par_lt h0
    simp only [if_neg h1, if_neg (show par j ≠ n by omega)]
    exact h j h0 (by omega)
  · have hj2 := par_lt h0
    omega
/-- The next one below. -/
def dn (n : Nat) (L : Nat → Cell) (i : Nat) : Nat := if 2 * i + 2 < n ∧ lt (L (2 * i + 2)) (L (2 * i + 1)) then 2 * i + 2 else 2 * i + 1
theorem dn_par {n : Nat} {L : Nat → Cell} {i : Nat} : par (dn n L i) = i ∧ 0 < dn n L i := by unfold dn par; split <;> omega
theorem dn_min {n : Nat} {L : Nat → Cell} {i : Nat} : ∀ s, 0 < s → s < n → par s = i → ¬ lt (L s) (L (dn n L i)) := fun s h0 hs hp => by
  have e : s = 2 * i + 1 ∨ s = 2 * i + 2 := by unfold par at hp; omega
  unfold dn
  split
  · rename_i g
    rcases e with rfl | rfl
    · exact lt_asymm g.2
    · exact lt_self _
  · rename_i g
    rcases e with rfl | rfl
    · exact lt_self _
    · exact fun h => g ⟨hs, h⟩
theorem Low.dn_stop (hu : Low n L i) (h : ¬ (dn n L i < n ∧ lt (L (dn n L i)) (L i))) : Heap n L := hu.stop fun s h0 hs hp => by
  have hmin := dn_min (n := n) (L := L) (i := i) s h0 hs hp
  by_cases g : dn n L i < n
  · exact le_trans hmin fun q => h ⟨g, q⟩
  · have e : s = 2 * i + 1 ∨ s = 2 * i + 2 := by unfold par at hp; omega
    unfold dn at g
    split at g
    · rename_i q; omega
    · omega
/-- The last one comes to the front: in order but for what is below 0. -/
theorem Heap.pop (h : Heap (n + 1) L) : Low n (swp L 0 n) 0 := by
  refine ⟨fun j h0 hj h1 => ?_, fun j _ _ _ h0 => absurd h0 (Nat.lt_irrefl 0)⟩
  have hp := par_lt h0
  rw [swp_o (by omega) (by omega), swp_o h1 (by omega)]
  exact h j h0 (by omega)
end Hs
end Go.Proofs.Ytddionboojdjlaa
