/- What the reference of the trie computes: Nodes. -/
import Derived.Test.YtngggdlcanpfgaaTrRefDR
namespace Go.Proofs.Ytngggdlcanpfgaa
open Go Go.RowKit Sy Ti
set_option maxRecDepth 100000
set_option maxHeartbeats 4000000

theorem comS_comm (a b : Bs) : comS a b = comS b a := by
  have h1 := comS_max (comS_r a b) (comS_l a b)
  have h2 := comS_max (comS_r b a) (comS_l b a)
  exact h1.eq h2.le
theorem comS_self (a : Bs) : comS a a = a := ((comS_max (Pre.rfl' a) (Pre.rfl' a)).eq (comS_l a a).le).symm
def ky (m : List Pr) (j : Nat) : Bs := (m.getD j p00).1
def CQ (m : List Pr) (j k : Nat) (q : Bs) : Prop := q = comS (ky m j) (ky m k) ∧ q.size < (ky m j).size ∧ q.size < (ky m k).size
def PO (m : List Pr) (i : Nat) (q : Bs) : Prop := q = eS ∨ (∃ j, j < i ∧ q = ky m j) ∨ ∃ j k, k < j ∧ j < i ∧ CQ m j k q
def PN (m : List Pr) (i k : Nat) (q : Bs) : Prop := PO m i q ∨ q = ky m i ∨ ∃ k', k' < k ∧ CQ m i k' q
theorem PO_zero {m : List Pr} {q : Bs} : PO m 0 q ↔ q = eS := ⟨fun h => h.elim id fun h => h.elim (fun ⟨_, h, _⟩ => absurd h (Nat.not_lt_zero _)) fun ⟨_, _, _, h, _⟩ => absurd h (Nat.not_lt_zero _), .inl⟩
theorem PN_zero {m : List Pr} {i : Nat} {q : Bs} : PN m i 0 q ↔ PO m i q ∨ q = ky m i := ⟨fun h => h.imp id fun h => h.elim id fun ⟨_, h, _⟩ => absurd h (Nat.not_lt_zero _), fun h => h.imp id .inl⟩
theorem PN_next {m : List Pr} {i k : Nat} {q : Bs} : PN m i (k + 1) q ↔ PN m i k q ∨ CQ m i k q := by
  constructor
  · rintro (h | h | ⟨k', h1, h2⟩)
    · exact .inl (.inl h)
    · exact .inl (.inr (.inl h))
    · rcases Nat.lt_or_ge k' k with g | g
      · exact .inl (.inr (.inr ⟨k', g, h2⟩))
      · obtain rfl : k' = k := by omega
        exact .inr h2
  · rintro ((h | h | ⟨k', h1, h2⟩) | h)
    · exact .inl h
    · exact .inr (.inl h)
    · exact .inr (.inr ⟨k', by omega, h2⟩)
    · exact .inr (.inr ⟨k, by omega, h⟩)
theorem PO_next {m : List Pr} {i : Nat} {q : Bs} : PO m (i + 1) q ↔ PN m i i q := by
  constructor
  · rintro (h | ⟨j, h1, h2⟩ | ⟨j, k, h1, h2, h3⟩)
    · exact .inl (.inl h)
    · rcases Nat.lt_or_ge j i with g | g
      · exact .inl (.inr (.inl ⟨j, g, h2⟩))
      · obtain rfl : j = i := by omega
        exact .inr (.inl h2)
    · rcases Nat.lt_or_ge j i with g | g
      · exact .inl (.inr (.inr ⟨j, k, h1, g, h3⟩))
      · obtain rfl : j = i := by omega
        exact .inr (.inr ⟨k, h1, h3⟩)
  · rintro ((h | ⟨j, h1, h2⟩ | ⟨j, k, h1, h2, h3⟩) | h | ⟨k, h1, h2⟩)
    · exact .inl h
    · exact .inr (.inl ⟨j, by omega, h2⟩)
    · exact .inr (.inr ⟨j, k, h1, by omega, h3⟩)
    · exact .inr (.inl ⟨i, by omega, h⟩)
    · exact .inr (.inr ⟨i, k, h1, by omega, h2⟩)
theorem ky_of {m : List Pr} {x : Pr} (h : x ∈ m) : ∃ j, j < m.length ∧ m.getD j p00 = x := by
  obtain ⟨j, hj, e⟩ := List.mem_iff_getElem.1 h
  exact ⟨j, hj, by rw [List.getD_eq_getElem?_getD, List.getElem?_eq_getElem hj]; exact e⟩
theorem PO_end {m : List Pr} {q : Bs} : PO m m.length q ↔ SP m q := by
  constructor
  · rintro (h | ⟨j, h1, h2⟩ | ⟨j, k, h1, h2, h3, h4, h5⟩)
    · exact .inl h
    · exact .inr (.inl ⟨(m.getD j p00).2, by rw [h2]; exact getD_in h1⟩)
    · exact .inr (.inr ⟨m.getD j p00, m.getD k p00, getD_in h2, getD_in (by omega), h3, h4, h5⟩)
  · rintro (h | ⟨v, h⟩ | ⟨x, y, hx, hy, h1, h2, h3⟩)
    · exact .inl h
    · obtain ⟨j, h1, h2⟩ := ky_of h
      exact .inr (.inl ⟨j, h1, by unfold ky; rw [h2]⟩)
    · obtain ⟨j, j1, j2⟩ := ky_of hx
      obtain ⟨k, k1, k2⟩ := ky_of hy
      rcases Nat.lt_trichotomy j k with g | g | g
      · exact .inr (.inr ⟨k, j, g, k1, by unfold ky; rw [j2, k2, comS_comm]; exact h1, by unfold ky; rw [k2]; exact h3, by unfold ky; rw [j2]; exact h2⟩)
      · subst g
        rw [j2] at k2
        subst k2
        rw [comS_self] at h1
        rw [h1] at h2
        exact absurd h2 (Nat.lt_irrefl _)
      · exact .inr (.inr ⟨j, k, g, j1, by unfold ky; rw [j2, k2]; exact h1, by unfold ky; rw [j2]; exact h2, by unfold ky; rw [k2]; exact h3⟩)
structure NI (P : Bs → Prop) (A : List Bs) : Prop where
  nd : A.Nodup
  mem : ∀ q, q ∈ A ↔ P q
theorem NI.congr {P Q : Bs → Prop} {A : List Bs} (h : NI P A) (k : ∀ q, P q ↔ Q q) : NI Q A := ⟨h.nd, fun q => (h.mem q).trans (k q)⟩
theorem NI.with_ {P : Bs → Prop} {A : List Bs} (h : NI P A) (s : Bs) : NI (fun q => P q ∨ q = s) (withL A s) ∧ (withL A s).length ≤ A.length + 1 := by
  unfold withL
  by_cases g : A.any (fun x => decide (x = s)) = true
  · rw [if_pos g]
    obtain ⟨x, hx, e⟩ := List.any_eq_true.1 g
    have e : x = s := of_decide_eq_true e
    subst e
    exact ⟨⟨h.nd, fun q => (h.mem q).trans ⟨.inl, fun k => k.elim id fun k => by rw [k]; exact (h.mem x).1 hx⟩⟩, Nat.le_succ _⟩
  · rw [if_neg g]
    have hs : s ∉ A := fun k => g (List.any_eq_true.2 ⟨s, k, decide_eq_true rfl⟩)
    refine ⟨⟨List.nodup_append.2 ⟨h.nd, List.pairwise_singleton .., fun a ha b hb e => hs (by rw [← List.mem_singleton.1 hb, ← e]; exact ha)⟩, fun q => ?_⟩, by rw [List.length_append]; exact Nat.le_refl _⟩
    rw [List.mem_append, List.mem_singleton, h.mem]
end Go.Proofs.Ytngggdlcanpfgaa
