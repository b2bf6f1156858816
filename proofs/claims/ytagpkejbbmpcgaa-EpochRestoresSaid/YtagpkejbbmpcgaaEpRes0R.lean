/- When a state is right for Restore: plain. -/
import Derived.Test.YtagpkejbbmpcgaaEpPrgR
namespace Go.Proofs.Ytagpkejbbmpcgaa
open Go Go.RowKit Sy Ti
set_option maxRecDepth 100000

structure RightP (f last : Int) (m0 : List Pr) : Prop where
  le : f ≤ last
  srt : SrtP m0
  rng : ∀ x ∈ m0, x.1.size ≤ 250 ∧ f < x.2 ∧ x.2 ≤ last
  dis : ∀ x ∈ m0, ∀ y ∈ m0, x ≠ y → x.2 ≠ y.2
  pre : ∀ x ∈ m0, ∀ y ∈ m0, x ≠ y → Pre y.1 x.1 → y.2 < x.2
/-- After the purges of a list, one after the other. -/
structure PI (f : Int) (w m : List Pr) (l : Int) : Prop where
  inc : w.Pairwise fun a b => a.2 < b.2
  rng : ∀ x ∈ w, x.1.size ≤ 250 ∧ f < x.2 ∧ x.2 ≤ l
  last : l = f ∨ ∃ x ∈ w, x.2 = l
  mem : ∀ x, x ∈ m ↔ x ∈ w ∧ ∀ y ∈ w, x.2 < y.2 → ¬ Pre y.1 x.1
  le : f ≤ l
section
variable {f l last : Int} {w m m0 : List Pr} {z : Pr}
theorem PI.start : PI f [] [] f := ⟨.nil, fun _ h => absurd h List.not_mem_nil, .inl rfl, fun _ => ⟨fun h => absurd h List.not_mem_nil, fun h => absurd h.1 List.not_mem_nil⟩, Int.le_refl f⟩
theorem purE_ok (h : (purE m l z.1 z.2).2.2 = 0) : z.1.size ≤ 250 ∧ l < z.2 ∧ purE m l z.1 z.2 = (setR (cutR m z.1) z.1 z.2, z.2, 0) := by
  unfold purE at *
  by_cases q : z.1.size ≤ 250 ∧ l < z.2
  · rw [if_pos q]
    exact ⟨q.1, q.2, rfl⟩
  · rw [if_neg q] at h
    exact absurd h (show ¬ (2 : Int) = 0 by decide)
theorem purE_bad (h : (purE m l z.1 z.2).2.2 ≠ 0) : ¬ (z.1.size ≤ 250 ∧ l < z.2) := fun q => h (by
  unfold purE
  rw [if_pos q])
theorem PI.next (h : PI f w m l) (hz : (purE m l z.1 z.2).2.2 = 0) : PI f (w ++ [z]) (purE m l z.1 z.2).1 (purE m l z.1 z.2).2.1 := by
  obtain ⟨h1, h2, e⟩ := purE_ok hz
  rw [e]
  show PI f (w ++ [z]) (setR (cutR m z.1) z.1 z.2) z.2
  have hw : ∀ {x}, x ∈ w ++ [z] ↔ x ∈ w ∨ x = z := fun {x} => by rw [List.mem_append, List.mem_singleton]
  refine ⟨List.pairwise_append.2 ⟨h.inc, List.pairwise_singleton .., fun a ha b hb => ?_⟩, fun x hx => ?_, .inr ⟨z, hw.2 (.inr rfl), rfl⟩, fun x => ?_, by have := h.le; omega⟩
  · rw [List.mem_singleton.1 hb]
    have := (h.rng a ha).2.2
    omega
  · rcases hw.1 hx with hx | rfl
    · obtain ⟨g1, g2, g3⟩ := h.rng x hx
      exact ⟨g1, g2, by omega⟩
    · exact ⟨h1, by have := h.le; omega, Int.le_refl _⟩
  · rw [mem_setR, mem_cutR, h.mem]
    constructor
    · rintro (rfl | ⟨_, k2, k3, k4⟩)
      · refine ⟨hw.2 (.inr rfl), fun y hy hlt => ?_⟩
        rcases hw.1 hy with hy | rfl
        · have := (h.rng y hy).2.2
          have hlt : z.2 < y.2 := hlt
          omega
        · exact absurd hlt (Int.lt_irrefl _)
      · refine ⟨hw.2 (.inl k3), fun y hy hlt => ?_⟩
        rcases hw.1 hy with hy | rfl
        · exact k4 y hy hlt
        · exact k2
    · rintro ⟨k1, k2⟩
      rcases hw.1 k1 with k1 | rfl
      · have hlt : x.2 < z.2 := by have := (h.rng x k1).2.2; omega
        have hnp := k2 z (hw.2 (.inr rfl)) hlt
        exact .inr ⟨fun e => hnp (by rw [e]; exact Pre.rfl' _), hnp, k1, fun y hy => k2 y (hw.2 (.inl hy))⟩
      · exact .inl rfl
/-- A purge that fails tells that the state was not right. -/
theorem PI.bad (h : PI f w m l) {rest : List Pr} (hp : (w ++ z :: rest).Perm m0) (hs : ∀ x ∈ w, ¬ z.2 < x.2) (hz : (purE m l z.1 z.2).2.2 ≠ 0) : ¬ RightP f last m0 := fun hr => by
  have hin : ∀ {x}, x ∈ w ++ z :: rest → x ∈ m0 := fun hx => hp.mem_iff.1 hx
  have hzm : z ∈ m0 := hin (List.mem_append.2 (.inr (List.mem_cons_self ..)))
  obtain ⟨g1, g2, _⟩ := hr.rng z hzm
  refine purE_bad hz ⟨g1, ?_⟩
  rcases h.last with e | ⟨x, hx, e⟩
  · rw [e]; exact g2
  · have hxm : x ∈ m0 := hin (List.mem_append.2 (.inl hx))
    have hnd : (w ++ z :: rest).Nodup := hp.nodup_iff.2 (List.Pairwise.imp (S := fun a b => a ≠ b) (fun {a b} hab e => by rw [e] at hab; exact by_irr _ hab) hr.srt)
    have hne : x ≠ z := (List.nodup_append.1 hnd).2.2 x hx z (List.mem_cons_self ..)
    have := hr.dis x hxm z hzm hne
    have := hs x hx
    omega
theorem PI.late (h : PI f w m l) (hp : w.Perm m0) (hl : last < l) : ¬ RightP f last m0 := fun hr => by
  rcases h.last with e | ⟨x, hx, e⟩
  · have := hr.le; omega
  · have := (hr.rng x (hp.mem_iff.1 hx)).2.2; omega
theorem PI.same (h : PI f w m l) (hp : w.Perm m0) (hm : SrtP m) (hr : RightP f last m0) : m = m0 := srt_ext hm hr.srt fun x => by
  rw [h.mem]
  constructor
  · exact fun k => hp.mem_iff.1 k.1
  · refine fun k => ⟨hp.mem_iff.2 k, fun y hy hlt hpre => ?_⟩
    have hne : x ≠ y := fun e => by rw [e] at hlt; exact Int.lt_irrefl _ hlt
    have := hr.pre x k y (hp.mem_iff.1 hy) hne hpre
    omega
theorem PI.right (h : PI f w m0 l) (hp : w.Perm m0) (hm : SrtP m0) (hl : l ≤ last) : RightP f last m0 := by
  have hdis : ∀ x ∈ w, ∀ y ∈ w, x.2 = y.2 → x = y := by
    have hinc := h.inc
    clear h hp
    induction w with
    | nil => exact fun x hx => absurd hx List.not_mem_nil
    | cons a w ih =>
      obtain ⟨g1, g2⟩ := List.pairwise_cons.1 hinc
      intro x hx y hy e
      rcases List.mem_cons.1 hx with hx | hx <;> rcases List.mem_cons.1 hy with hy | hy
      · rw [hx, hy]
      · have := g1 y hy; rw [← e, hx] at this; exact absurd this (Int.lt_irrefl _)
      · have := g1 x hx; rw [e, hy] at this; exact absurd this (Int.lt_irrefl _)
      · exact ih g2 x hx y hy e
  refine ⟨by have := h.le; omega, hm, fun x hx => ?_, fun x hx y hy hne e => hne (hdis x (hp.mem_iff.2 hx) y (hp.mem_iff.2 hy) e), fun x hx y hy hne hpre => ?_⟩
  · obtain ⟨g1, g2, g3⟩ := h.rng x (hp.mem_iff.2 hx)
    exact ⟨g1, g2, by omega⟩
  · rcases Int.lt_trichotomy x.2 y.2 with g | g | g
    · exact absurd hpre (((h.mem x).1 hx).2 y (hp.mem_iff.2 hy) g)
    · exact absurd (hdis x (hp.mem_iff.2 hx) y (hp.mem_iff.2 hy) g) hne
    · exact g
end
end Go.Proofs.Ytagpkejbbmpcgaa
