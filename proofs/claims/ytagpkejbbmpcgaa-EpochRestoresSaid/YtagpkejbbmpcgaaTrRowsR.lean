/- Rows of nodes: plain. -/
import Derived.Test.YtagpkejbbmpcgaaTrKeyR
namespace Go.Proofs.Ytagpkejbbmpcgaa
open Go Go.RowKit Sy Ti
set_option maxRecDepth 100000
def clrM {α : Type} (M : Nat → Option α) (b : Nat) : Nat → Option α := fun k => if k = b then none else M k
theorem clrM_same {α : Type} {M : Nat → Option α} {b : Nat} : clrM M b b = none := if_pos rfl
theorem clrM_ne {α : Type} {M : Nat → Option α} {b k : Nat} (h : k ≠ b) : clrM M b k = M k := if_neg h
section
variable {T : Tt} {R : RowsN}
theorem TR.set (h : TR T R) {b r C : Nat} {d' : Nd} (hp : d'.p = some r) (h1 : d'.kids.length ≤ d'.c) (h2 : d'.c ≤ C) (hr : R r = none ∨ ∃ d, T b = some d ∧ d.p = some r) : TR (setM T b d') (setM R r (d'.kids, C)) := by
  have hother : ∀ b0 d0, T b0 = some d0 → b0 ≠ b → d0.p ≠ some r := fun b0 d0 h0 hn e => by
    rcases hr with g | ⟨d, g1, g2⟩
    · rcases h.row b0 d0 h0 with ⟨q, _⟩ | ⟨r0, C0, q1, q2, _⟩
      · rw [q] at e; cases e
      · rw [q1] at e; cases e; rw [q2] at g; cases g
    · exact hn (h.own b0 b d0 d h0 g1 (e.trans g2.symm) (by rw [e]; exact fun q => by cases q))
  refine ⟨fun b0 d0 h0 => ?_, fun b0 b1 d0 d1 h0 h1' he hne => ?_⟩
  · by_cases q : b0 = b
    · subst q; rw [setM_same] at h0; cases h0
      exact .inr ⟨r, C, hp, setM_same, h1, h2⟩
    · rw [setM_ne q] at h0
      rcases h.row b0 d0 h0 with g | ⟨r0, C0, q1, q2, q3, q4⟩
      · exact .inl g
      · exact .inr ⟨r0, C0, q1, by rw [setM_ne (fun e => hother b0 d0 h0 q (by rw [q1, e]))]; exact q2, q3, q4⟩
  · by_cases q : b0 = b <;> by_cases q' : b1 = b
    · rw [q, q']
    · subst q; rw [setM_same] at h0; cases h0
      rw [setM_ne q'] at h1'
      exact absurd (he.symm.trans hp) (hother b1 d1 h1' q')
    · subst q'; rw [setM_same] at h1'; cases h1'
      rw [setM_ne q] at h0
      exact absurd (he.trans hp) (hother b0 d0 h0 q)
    · rw [setM_ne q] at h0; rw [setM_ne q'] at h1'
      exact h.own b0 b1 d0 d1 h0 h1' he hne
theorem TR.setN (h : TR T R) {b : Nat} {d d' : Nd} (hb : T b = some d) (h1 : d'.p = d.p) (h2 : d'.kids = d.kids) (h3 : d'.c = d.c) : TR (setM T b d') R := by
  have fro : ∀ {b0 d0}, setM T b d' b0 = some d0 → ∃ d1, T b0 = some d1 ∧ d0.p = d1.p ∧ d0.kids = d1.kids ∧ d0.c = d1.c := fun {b0 d0} h0 => by
    by_cases q : b0 = b
    · subst q; rw [setM_same] at h0; cases h0; exact ⟨d, hb, h1, h2, h3⟩
    · rw [setM_ne q] at h0; exact ⟨d0, h0, rfl, rfl, rfl⟩
  refine ⟨fun b0 d0 h0 => ?_, fun b0 b1 d0 d1 h0 h1' he hne => ?_⟩
  · obtain ⟨d1, g1, g2, g3, g4⟩ := fro h0
    rw [g2, g3, g4]
    exact h.row b0 d1 g1
  · obtain ⟨e0, g1, g2, _⟩ := fro h0
    obtain ⟨e1, k1, k2, _⟩ := fro h1'
    exact h.own b0 b1 e0 e1 g1 k1 (by rw [← g2, ← k2]; exact he) (by rw [← g2]; exact hne)
theorem TR.free (h : TR T R) {b : Nat} {d : Nd} (hb : T b = some d) {r : Nat} (hr : R r = none) : d.p ≠ some r := fun e => by
  rcases h.row b d hb with ⟨q, _⟩ | ⟨r0, C0, q1, q2, _⟩
  · rw [q] at e; cases e
  · rw [q1] at e; cases e; rw [q2] at hr; cases hr
theorem TR.row_ne (h : TR T R) {r : Nat} (hr : ∀ b d, T b = some d → d.p ≠ some r) (X : List Nat × Nat) : TR T (setM R r X) := by
  refine ⟨fun b0 d0 h0 => ?_, h.own⟩
  rcases h.row b0 d0 h0 with g | ⟨r0, C0, q1, q2, q3, q4⟩
  · exact .inl g
  · exact .inr ⟨r0, C0, q1, by rw [setM_ne (fun e => hr b0 d0 h0 (by rw [q1, e]))]; exact q2, q3, q4⟩
theorem TR.extra (h : TR T R) {r : Nat} (hr : R r = none) (X : List Nat × Nat) : TR T (setM R r X) := h.row_ne (fun _ _ hb => h.free hb hr) X
theorem TR.clr (h : TR T R) (y : Nat) : TR (clrM T y) R := by
  have fro : ∀ {b d}, clrM T y b = some d → T b = some d := fun {b d} h0 => by
    by_cases q : b = y
    · subst q; rw [clrM_same] at h0; cases h0
    · rwa [clrM_ne q] at h0
  exact ⟨fun b d hb => h.row b d (fro hb), fun b b' d d' hb hb' => h.own b b' d d' (fro hb) (fro hb')⟩
/-- A node without a row. -/
theorem TR.setE (h : TR T R) {b : Nat} {d' : Nd} (hb : T b = none) (h1 : d'.p = none) (h2 : d'.kids = []) (h3 : d'.c = 0) : TR (setM T b d') R := by
  refine ⟨fun b0 d0 h0 => ?_, fun b0 b1 d0 d1 h0 h1' he hne => ?_⟩
  · by_cases q : b0 = b
    · subst q; rw [setM_same] at h0; cases h0; exact .inl ⟨h1, h2, h3⟩
    · rw [setM_ne q] at h0; exact h.row b0 d0 h0
  · by_cases q : b0 = b
    · subst q; rw [setM_same] at h0; cases h0; exact absurd h1 hne
    · by_cases q' : b1 = b
      · subst q'; rw [setM_same] at h1'; cases h1'; exact absurd (he.trans h1) hne
      · rw [setM_ne q] at h0; rw [setM_ne q'] at h1'
        exact h.own b0 b1 d0 d1 h0 h1' he hne
end
namespace Ti
theorem sub_split {s : Bs} {a : Nat} : s = substr s 0 a ++ substr s a s.size := by
  refine by_inj ?_
  have h2 : (by_ s).take s.size = by_ s := List.take_of_length_le (by rw [by_len]; exact Nat.le_refl _)
  rw [by_app, by_sub, by_sub, List.drop_zero, h2, List.take_append_drop]
theorem sub_size {s : Bs} {a b : Nat} (h : b ≤ s.size) : (substr s a b).size = b - a := by
  rw [← by_len, by_sub, List.length_drop, List.length_take, by_len]
  omega
end Ti
end Go.Proofs.Ytagpkejbbmpcgaa
