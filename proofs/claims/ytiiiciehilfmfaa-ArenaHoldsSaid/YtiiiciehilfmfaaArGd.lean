/- An arena as an object among other blocks (XGd), and its contracts so. -/
import Derived.Test.YtiiiciehilfmfaaLaw09
import Derived.Test.YtiiiciehilfmfaaRf09G
namespace Go.Proofs.Ytiiiciehilfmfaa
open Go.RowKit

def arI (p : Nat) (A : AA) : Inv := fun w F => ∃ gv fv, ArAt w p gv fv A.most A.gens A.free ∧ F = arOwn p gv fv
theorem arI_framed (p : Nat) (A : AA) : Framed (arI p A) where
  lt := by
    rintro w F ⟨gv, fv, h, rfl⟩ k hk
    exact h.lt k hk
  keep := by
    rintro w w' F ⟨gv, fv, h, rfl⟩ hk
    exact ⟨gv, fv, h.keep hk, rfl⟩

open Classical in
noncomputable def blksOf (w : World) (L : Nat → Prop) : List (Nat × Obj) := (List.range w.heap.size).filterMap fun k => if L k then (w.heap[k]?).map fun o => (k, o) else none
theorem mem_blksOf {w : World} {L : Nat → Prop} {x : Nat × Obj} (h : x ∈ blksOf w L) : L x.1 ∧ w.heap[x.1]? = some x.2 := by
  unfold blksOf at h
  obtain ⟨k, _, hk⟩ := List.mem_filterMap.1 h
  split at hk
  · rename_i hl
    obtain ⟨o, ho, rfl⟩ := Option.map_eq_some_iff.1 hk
    exact ⟨hl, ho⟩
  · cases hk
theorem blksOf_mem {w : World} {L : Nat → Prop} {k : Nat} (hl : L k) (hk : k < w.heap.size) : ∃ o, w.heap[k]? = some o ∧ (k, o) ∈ blksOf w L := by
  refine ⟨w.heap[k], Array.getElem?_eq_getElem hk, ?_⟩
  unfold blksOf
  exact List.mem_filterMap.2 ⟨k, List.mem_range.2 hk, by rw [if_pos hl, Array.getElem?_eq_getElem hk]; rfl⟩

section
variable {w0 w w' : World} {p : Nat} {A A' : AA} {L : Nat → Prop}

theorem Gd.toK (h : Gd (arI p A) w0 L w) : KA w0 p A (blksOf w L) w := by
  obtain ⟨F, ⟨gv, fv, h1, rfl⟩, h2, h3⟩ := h.ob
  exact ⟨⟨gv, fv, h1, fun x hx => h2 _ (mem_blksOf hx).1, h3⟩, fun x hx => (mem_blksOf hx).2, h.below⟩
theorem Gd.ofK (h : Gd (arI p A) w0 L w) (k : KA w0 p A' (blksOf w L) w') : Gd (arI p A') w0 L w' ∧ Kept L w w' := by
  obtain ⟨gv, fv, h1, h2, h3⟩ := k.ob
  refine ⟨⟨⟨_, ⟨gv, fv, h1, rfl⟩, fun j hj => ?_, h3⟩, fun j hj => ?_, k.below⟩, ⟨fun j hj => ?_⟩⟩
  · obtain ⟨o, _, hm⟩ := blksOf_mem hj (h.lt j hj)
    exact h2 _ hm
  · obtain ⟨o, _, hm⟩ := blksOf_mem hj (h.lt j hj)
    exact lt_of_block (k.keep _ hm)
  · obtain ⟨o, ho, hm⟩ := blksOf_mem hj (h.lt j hj)
    exact (k.keep _ hm).trans ho.symm

theorem gd_of_K {f : FuncId} {args : Array Value} {r : Ending} (h : Gd (arI p A) w0 L w) (hc : Calls Try.prog f args w (KP w0 p A' (blksOf w L) r)) :
    Calls Try.prog f args w (GdP (arI p A') w0 L w r) :=
  hc.mono fun _ _ ⟨h1, h2⟩ => ⟨h1, h.ofK h2⟩

theorem takes_G (h : Gd (arI p A) w0 L w) {B : Int} (ok : A.Ok B) (hB : B < 9223372036854775807) (n g e : Int) :
    Calls Try.prog 10 #[.pointer (some ⟨p, 0, none⟩), .agg #[.int .i64 n, .int .i64 g], .int .i64 e] w (GdP (arI p A.take.2) w0 L w (.returned (.bool (((A.take.1.1 == n) && (A.take.1.2.1 == g)) && (A.take.1.2.2 == e))))) := gd_of_K h (takes_K h.toK ok hB n g e)
theorem ats_G (h : Gd (arI p A) w0 L w) (hm : A.most ≠ 0) (k n g e : Int) :
    Calls Try.prog 14 #[.pointer (some ⟨p, 0, none⟩), .int .i64 k, .agg #[.int .i64 n, .int .i64 g], .int .i64 e] w (GdP (arI p A) w0 L w (.returned (.bool ((((atA A.gens k).1 == n) && ((atA A.gens k).2.1 == g)) && ((atA A.gens k).2.2 == e))))) := gd_of_K h (ats_K h.toK hm k n g e)
theorem take_G (h : Gd (arI p A) w0 L w) {B : Int} (ok : A.Ok B) (hB : B < 9223372036854775807) : Calls Try.prog 15 #[.pointer (some ⟨p, 0, none⟩)] w (GdP (arI p A.take.2) w0 L w (RefE A.take.1)) := gd_of_K h (take_K h.toK ok hB)
theorem rel_G (h : Gd (arI p A) w0 L w) {B : Int} (ok : A.Ok B) (hB : B < 9223372036854775807) (n g : Int) : Calls Try.prog 13 #[.pointer (some ⟨p, 0, none⟩), .agg #[.int .i64 n, .int .i64 g]] w (GdP (arI p (A.rel n g).2) w0 L w (.returned (.int .i64 (A.rel n g).1))) := gd_of_K h (rel_K h.toK ok hB n g)
theorem at_G (h : Gd (arI p A) w0 L w) (hm : A.most ≠ 0) (n : Int) : Calls Try.prog 16 #[.pointer (some ⟨p, 0, none⟩), .int .i64 n] w (GdP (arI p A) w0 L w (RefE (atA A.gens n))) := gd_of_K h (at_K h.toK hm n)
theorem has_G (h : Gd (arI p A) w0 L w) (hm : A.most ≠ 0) (n g : Int) : Calls Try.prog 17 #[.pointer (some ⟨p, 0, none⟩), .agg #[.int .i64 n, .int .i64 g]] w (GdP (arI p A) w0 L w (.returned (.bool (hasA A.gens n g)))) := gd_of_K h (has_K h.toK hm n g)
theorem len_G (h : Gd (arI p A) w0 L w) (hm : A.most ≠ 0) : Calls Try.prog 11 #[.pointer (some ⟨p, 0, none⟩)] w (GdP (arI p A) w0 L w (.returned (.int .i64 (A.gens.length - A.free.length)))) := gd_of_K h (len_K h.toK hm)
theorem made_G (h : Gd (arI p A) w0 L w) (hm : A.most ≠ 0) : Calls Try.prog 12 #[.pointer (some ⟨p, 0, none⟩)] w (GdP (arI p A) w0 L w (.returned (.int .i64 A.gens.length))) := gd_of_K h (made_K h.toK hm)
end
end Go.Proofs.Ytiiiciehilfmfaa
