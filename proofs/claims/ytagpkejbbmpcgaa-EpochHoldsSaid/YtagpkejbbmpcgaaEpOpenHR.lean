/- The law EpochHolds at its arguments. -/
import Derived.Test.YtagpkejbbmpcgaaEpOpenR
import Derived.Test.YtagpkejbbmpcgaaEpHoldsR
namespace Go.Proofs.Ytagpkejbbmpcgaa
open Go Go.RowKit Go.ChangeShapes Go.WideShapes Go.Deep Sy Ti
set_option maxRecDepth 100000

theorem str_of {H : Type} {enc : TypeId × Value → H} {W : World} {spare : Nat → Bool} {held : Bool} (a : Addr) (y : DataW H × List MemPlace) (n : Nat)
    (h : (W.cells? 0 a 1).bind (DataW.trod enc Try.prog W 0 spare held n 9) = some y) :
    ∃ (x : Bs) (l : List Value), W.cells? 0 a 1 = some l ∧ czl emptyR [.str x] = some l := by
  obtain ⟨cs, hcs, htr⟩ := Option.bind_eq_some_iff.1 h
  obtain ⟨m0, e0, _, _⟩ := DataW.trod_string Try.underlying9 htr
  subst e0
  exact ⟨m0, _, hcs, rfl⟩
theorem strs_of {H : Type} {enc : TypeId × Value → H} {W : World} {spare : Nat → Bool} {held : Bool} {r : Reach} {b0 : Nat} {v : Value} {d : DataW H} {p : List MemPlace} (hv : Value.okWide Try.prog W r b0 40 v) (h : DataW.Trod enc Try.prog W 0 spare held 40 v d p) :
    ∃ l : List Bs, Nonempty (RoArg W v l.length (fun j => [.str (l.getD j eS)]) 1) := by
  obtain ⟨n, A, _, ⟨h⟩⟩ := roArg_of eS (fun x : Bs => [.str x]) (sz := 1) Try.underlying40 (by kernel_rfl) (fun a y m h => str_of a y m h) hv h
  obtain ⟨l, _, h⟩ := RoArg.list (F := fun x : Bs => ([.str x] : List V)) (A := A) eS h
  exact ⟨l, h⟩
theorem lEHolds (l : List ActP) (l2 : List Bs) (ht : ∀ a ∈ l, 0 ≤ a.2.2 ∧ a.2.2 < 18446744073709551616) (W : World) (v v' : Value) (h : Nonempty (RoArg W v l.length (fun j => apC (l.getD j ap0)) 3)) (h' : Nonempty (RoArg W v' l2.length (fun j => [.str (l2.getD j eS)]) 1)) :
    Calls Try.prog 4 #[v, v'] W fun e w' => e = .returned (.bool true) ∧ Below W.heap.size W w' := by
  obtain ⟨h⟩ := h
  obtain ⟨h'⟩ := h'
  obtain ⟨p, c, hc, _, hz⟩ := h.fz (by decide) (ap_ok l)
  obtain ⟨p', c', hc', _, hz'⟩ := h'.fz (by decide) (fun _ _ => ⟨rfl, rfl⟩)
  refine EHoldsL_top W (_, (p, c, l), (p', c', l2)) ⟨⟨hz, hz'⟩, ht⟩ rfl ⟨rfl, rfl⟩ [v, v'] ?_
  show czl _ [V.zsl 0 p 3 l.length c, V.zsl 0 p' 1 l2.length c'] = some [v, v']
  simp only [czl, hc, hc']
end Go.Proofs.Ytagpkejbbmpcgaa
