/- A structure in memory among other blocks, whatever the structure: I w F says what it is in world w, and that it owns the blocks F. -/
import Derived.Test.YtiiiciehilfmfaaHeap
namespace Go.Proofs.Ytiiiciehilfmfaa
open Go.RowKit

abbrev Inv := World → (Nat → Prop) → Prop

/-- It goes with its blocks. -/
structure Framed (I : Inv) : Prop where
  lt : ∀ {w F}, I w F → ∀ k, F k → k < w.heap.size
  keep : ∀ {w w' F}, I w F → (∀ k, F k → w'.heap[k]? = w.heap[k]?) → I w' F

/-- What a call of it leaves: the answer, the structure turned, and nothing else. -/
def OpP (F : Nat → Prop) (w : World) (r : Ending) (I : Inv) (e : Ending) (w' : World) : Prop := e = r ∧ ∃ F', I w' F' ∧ Stp F F' w w'

/-- The structure is there; the blocks L are none of its own; below the heap's old size nothing has turned since w0. -/
structure Gd (I : Inv) (w0 : World) (L : Nat → Prop) (w : World) : Prop where
  ob : ∃ F, I w F ∧ (∀ k, L k → ¬ F k) ∧ ∀ k, F k → w0.heap.size ≤ k
  lt : ∀ k, L k → k < w.heap.size
  below : Below w0.heap.size w0 w

/-- The blocks L hold what they held: as two rules for the walk. -/
structure Kept (L : Nat → Prop) (w w' : World) : Prop where
  blk : ∀ k, L k → w'.heap[k]? = w.heap[k]?
theorem Kept.cell {L : Nat → Prop} {w w' : World} (h : Kept L w w') (k o : Nat) (hk : L k) : w'.cell? ⟨k, o, none⟩ = w.cell? ⟨k, o, none⟩ := World.cell?_of_block (a := ⟨k, o, none⟩) (h.blk k hk)
theorem Kept.frozen {L : Nat → Prop} {w w' : World} (h : Kept L w w') (k o : Nat) (hk : L k) : w'.frozen? ⟨k, o, none⟩ = w.frozen? ⟨k, o, none⟩ := World.frozen?_of_block (a := ⟨k, o, none⟩) (h.blk k hk)
theorem Kept.own {L : Nat → Prop} {w w' : World} (h : Kept L w w') {base : Nat} {e : TypeId} {size : Nat} {v : Value} {n : Nat} {xs : List Value} (ho : w.ownsRow base e size v n xs)
    (hk : ∀ k, v.ownBlock = some k → L k) : w'.ownsRow base e size v n xs := ownsRow_block ho fun k e => h.blk k (hk k e)
theorem Kept.trans {L : Nat → Prop} {w w' w'' : World} (h : Kept L w w') (h' : Kept L w' w'') : Kept L w w'' := ⟨fun k hk => (h'.blk k hk).trans (h.blk k hk)⟩
theorem Kept.mono {L L' : Nat → Prop} {w w' : World} (h : Kept L w w') (hl : ∀ k, L' k → L k) : Kept L' w w' := ⟨fun k hk => h.blk k (hl k hk)⟩

section
variable {I I' : Inv} {w0 w w' : World} {L : Nat → Prop}

def GdP (I : Inv) (w0 : World) (L : Nat → Prop) (w : World) (r : Ending) (e : Ending) (w' : World) : Prop := e = r ∧ Gd I w0 L w' ∧ Kept L w w'

theorem Gd.op {F : Nat → Prop} {r : Ending} (h2 : ∀ k, L k → ¬ F k) (h3 : ∀ k, F k → w0.heap.size ≤ k) (hlt : ∀ k, L k → k < w.heap.size) (hb : Below w0.heap.size w0 w) {e : Ending} (h : OpP F w r I' e w') : GdP I' w0 L w r e w' := by
  obtain ⟨rfl, F', hI, hs⟩ := h
  refine ⟨rfl, ⟨⟨F', hI, fun k hk g => ?_, fun k g => ?_⟩, fun k hk => Nat.lt_of_lt_of_le (hlt k hk) hs.size, hb.trans (hs.below hb.size fun k hk g => by have := h3 k g; omega)⟩, ⟨fun k hk => hs.keep k (hlt k hk) (h2 k hk)⟩⟩
  · rcases hs.grow k g with g | g
    · exact h2 k hk g
    · have := hlt k hk; omega
  · rcases hs.grow k g with g | g
    · exact h3 k g
    · exact Nat.le_trans hb.size g

/-- A contract of the structure serves among other blocks. -/
theorem Gd.lift {P : Program} {f : FuncId} {args : Array Value} {r : Ending} (h : Gd I w0 L w) (hc : ∀ F, I w F → Calls P f args w (OpP F w r I')) : Calls P f args w (GdP I' w0 L w r) := by
  obtain ⟨F, hF, h2, h3⟩ := h.ob
  exact (hc F hF).mono fun e w' ho => Gd.op h2 h3 h.lt h.below ho

/-- Something else is done, in new memory alone: all that is new is none of its own. -/
theorem Gd.later (hI : Framed I) (h : Gd I w0 L w) (hb : Below w.heap.size w w') : ∃ L', (∀ k, L k → L' k) ∧ (∀ k, w.heap.size ≤ k → k < w'.heap.size → L' k) ∧ Gd I w0 L' w' := by
  obtain ⟨F, hF, h2, h3⟩ := h.ob
  refine ⟨fun k => L k ∨ (w.heap.size ≤ k ∧ k < w'.heap.size), fun k hk => .inl hk, fun k a b => .inr ⟨a, b⟩, ⟨⟨F, hI.keep hF fun k hk => hb.block k (hI.lt hF k hk), fun k hk g => ?_, h3⟩, fun k hk => ?_, h.below.trans (hb.mono h.below.size)⟩⟩
  · rcases hk with hk | hk
    · exact h2 k hk g
    · have := hI.lt hF k g; omega
  · rcases hk with hk | hk
    · exact Nat.lt_of_lt_of_le (h.lt k hk) hb.size
    · exact hk.2
/-- The blocks L are written: the structure stays. -/
theorem Gd.wrote (hI : Framed I) (h : Gd I w0 L w) (ho : w'.os = w.os) (ht : w'.tape = w.tape) (hu : w'.output = w.output) (hs : w.heap.size ≤ w'.heap.size)
    (hk : ∀ k, k < w.heap.size → ¬ L k → w'.heap[k]? = w.heap[k]?) (hL : ∀ k, L k → w0.heap.size ≤ k) : ∃ L', (∀ k, L k → L' k) ∧ (∀ k, w.heap.size ≤ k → k < w'.heap.size → L' k) ∧ Gd I w0 L' w' := by
  obtain ⟨F, hF, h2, h3⟩ := h.ob
  refine ⟨fun k => L k ∨ (w.heap.size ≤ k ∧ k < w'.heap.size), fun k hk => .inl hk, fun k a b => .inr ⟨a, b⟩, ⟨⟨F, hI.keep hF fun k g => hk k (hI.lt hF k g) (fun l => h2 k l g), fun k hk g => ?_, h3⟩, fun k hk => ?_,
    h.below.trans ⟨ho, ht, hu, hs, fun k hk' => hk k (by have := h.below.size; omega) (fun l => by have := hL k l; omega)⟩⟩⟩
  · rcases hk with hk | hk
    · exact h2 k hk g
    · have := hI.lt hF k g; omega
  · rcases hk with hk | hk
    · exact Nat.lt_of_lt_of_le (h.lt k hk) hs
    · exact hk.2
theorem Gd.drew (hI : Framed I) (h : Gd I w0 L w) : Gd I w0 L w.drew := by
  obtain ⟨F, hF, h2, h3⟩ := h.ob
  exact ⟨⟨F, hI.keep hF fun _ _ => rfl, h2, h3⟩, h.lt, h.below.drew⟩
theorem Gd.less (h : Gd I w0 L w) {L' : Nat → Prop} (hl : ∀ k, L' k → L k) : Gd I w0 L' w := by
  obtain ⟨F, hF, h2, h3⟩ := h.ob
  exact ⟨⟨F, hF, fun k hk => h2 k (hl k hk), h3⟩, fun k hk => h.lt k (hl k hk), h.below⟩
end
end Go.Proofs.Ytiiiciehilfmfaa
