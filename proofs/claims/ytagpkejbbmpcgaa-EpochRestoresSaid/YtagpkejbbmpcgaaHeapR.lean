/- Memory, by blocks: what a structure owns (a predicate on block numbers), and what a step leaves as it was. -/
import Derived.Test.YtagpkejbbmpcgaaBaseR
import Derived.OneCell
namespace Go.Proofs.Ytagpkejbbmpcgaa
open Go.RowKit

/-- From w to w': blocks outside F are as they were; F': what is owned then: of F, or new. -/
structure Stp (F F' : Nat → Prop) (w w' : World) : Prop where
  os : w'.os = w.os
  tape : w'.tape = w.tape
  output : w'.output = w.output
  size : w.heap.size ≤ w'.heap.size
  keep : ∀ k, k < w.heap.size → ¬ F k → w'.heap[k]? = w.heap[k]?
  grow : ∀ k, F' k → F k ∨ w.heap.size ≤ k

theorem Stp.refl (F : Nat → Prop) (w : World) : Stp F F w w := ⟨rfl, rfl, rfl, Nat.le_refl _, fun _ _ _ => rfl, fun _ h => .inl h⟩
theorem Stp.trans {F F' F'' : Nat → Prop} {w w' w'' : World} (h : Stp F F' w w') (k : Stp F' F'' w' w'') : Stp F F'' w w'' :=
  ⟨k.os.trans h.os, k.tape.trans h.tape, k.output.trans h.output, Nat.le_trans h.size k.size,
   fun i hi hF => (k.keep i (Nat.lt_of_lt_of_le hi h.size) (fun g => by rcases h.grow i g with g | g; exact hF g; omega)).trans (h.keep i hi hF),
   fun i hi => by rcases k.grow i hi with g | g; exact h.grow i g; exact .inr (Nat.le_trans h.size g)⟩
theorem Stp.mono {F F' G G' : Nat → Prop} {w w' : World} (h : Stp F F' w w') (hF : ∀ k, F k → G k) (hG : ∀ k, G' k → F' k ∨ G k ∨ w.heap.size ≤ k) : Stp G G' w w' :=
  ⟨h.os, h.tape, h.output, h.size, fun k hk g => h.keep k hk (fun f => g (hF k f)), fun k g => by
    rcases hG k g with g | g | g
    · rcases h.grow k g with g | g
      · exact .inl (hF k g)
      · exact .inr g
    · exact .inl g
    · exact .inr g⟩

end Go.Proofs.Ytagpkejbbmpcgaa
