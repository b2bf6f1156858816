/- What the reference of the epochs computes. -/
import Derived.Test.YtagpkejbbmpcgaaEpResR
namespace Go.Proofs.Ytagpkejbbmpcgaa
open Go Go.RowKit Sy Ti
set_option maxRecDepth 100000
set_option maxHeartbeats 8000000

structure RX where
  f : Int
  l : Int
  m : List Pr
  s : Bs
  n : Int
theorem RightP.start : RightP 0 0 [] := ⟨Int.le_refl 0, .nil, fun _ h => absurd h List.not_mem_nil, fun _ h => absurd h List.not_mem_nil, fun _ h => absurd h List.not_mem_nil⟩
theorem RightP.flush {f l n : Int} {m : List Pr} (h : RightP f l m) : RightP (fluE m f l n).2.1.1 (fluE m f l n).2.1.2 (fluE m f l n).1 := by
  unfold fluE
  split
  · exact ⟨Int.le_refl n, .nil, fun _ h => absurd h List.not_mem_nil, fun _ h => absurd h List.not_mem_nil, fun _ h => absurd h List.not_mem_nil⟩
  · exact h
theorem RightP.purge {f l n : Int} {m : List Pr} {s : Bs} (h : RightP f l m) : RightP f (purE m l s n).2.1 (purE m l s n).1 := by
  unfold purE
  split
  · rename_i g
    obtain ⟨g1, g2⟩ := g
    show RightP f n (setR (cutR m s) s n)
    have hm : ∀ {x}, x ∈ setR (cutR m s) s n → x = (s, n) ∨ (¬ Pre s x.1 ∧ x ∈ m) := fun hx => (mem_setR.1 hx).imp id fun k => mem_cutR.1 k.2
    refine ⟨by have := h.le; omega, (h.srt.cutR s).setR s n, fun x hx => ?_, fun x hx y hy hne e => ?_, fun x hx y hy hne hp => ?_⟩
    · rcases hm hx with rfl | ⟨_, k⟩
      · exact ⟨g1, by have := h.le; show f < n; omega, Int.le_refl n⟩
      · have := h.rng x k
        exact ⟨this.1, this.2.1, by omega⟩
    · rcases hm hx with rfl | ⟨_, k⟩ <;> rcases hm hy with rfl | ⟨_, k2⟩
      · exact hne rfl
      · have := h.rng y k2
        have e : n = y.2 := e
        omega
      · have := h.rng x k
        have e : x.2 = n := e
        omega
      · exact h.dis x k y k2 hne e
    · rcases hm hx with rfl | ⟨kn, k⟩ <;> rcases hm hy with rfl | ⟨_, k2⟩
      · exact absurd rfl hne
      · have := h.rng y k2
        show y.2 < n
        omega
      · exact absurd hp kn
      · exact h.pre x k y k2 hne hp
  · exact h
end Go.Proofs.Ytagpkejbbmpcgaa
