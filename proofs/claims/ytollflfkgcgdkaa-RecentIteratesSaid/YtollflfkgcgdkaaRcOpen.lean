/- A list of calls among the arguments. -/
import Derived.Test.YtollflfkgcgdkaaRcPlays
import Derived.Test.YtollflfkgcgdkaaSyOpen
namespace Go.Proofs.Ytollflfkgcgdkaa
open Go Go.RowKit Go.ChangeShapes Go.WideShapes Go.Deep Sy

set_option maxRecDepth 100000 in
theorem act_of {H : Type} {enc : TypeId × Value → H} {W : World} {spare : Nat → Bool} {held : Bool} (a : Addr) (y : DataW H × List MemPlace) (n : Nat)
    (h : (W.cells? 0 a 2).bind (DataW.trod enc Try.prog W 0 spare held n 34) = some y) :
    ∃ (x : Int × Int) (l : List Value), W.cells? 0 a 2 = some l ∧ czl emptyR (actC x) = some l := by
  obtain ⟨cs, hcs, htr⟩ := Option.bind_eq_some_iff.1 h
  obtain ⟨xs, m, _, _, hl, hlen, hfs⟩ := DataW.trod_struct Try.underlying34 htr
  have hl4 : cs.length = 2 := hl.trans (by kernel_rfl)
  match cs, hl4 with
  | [c0, c1], _ =>
    match xs, hlen with
    | [y0, y1], _ =>
      have k0 : DataW.trod enc Try.prog W 0 spare held m 3 [c0] = some y0 := by
        have := hfs 0 _ rfl
        simpa [show Try.prog.cellsOf 3 = 1 from by kernel_rfl] using this
      have k1 : DataW.trod enc Try.prog W 0 spare held m 3 [c1] = some y1 := by
        have := hfs 1 _ rfl
        simpa [show Try.prog.cellsOf 3 = 1 from by kernel_rfl] using this
      obtain ⟨m0, e0, _, _⟩ := DataW.trod_int Try.underlying3 k0
      obtain ⟨m1, e1, _, _⟩ := DataW.trod_int Try.underlying3 k1
      simp at e0 e1
      subst e0 e1
      exact ⟨(m0, m1), _, hcs, rfl⟩
theorem acts_of {H : Type} {enc : TypeId × Value → H} {W : World} {spare : Nat → Bool} {held : Bool} {r : Reach} {b0 : Nat} {v : Value} {d : DataW H} {p : List MemPlace} (hv : Value.okWide Try.prog W r b0 31 v) (h : DataW.Trod enc Try.prog W 0 spare held 31 v d p) :
    ∃ l : List (Int × Int), Nonempty (RoArg W v l.length (fun j => actC (l.getD j (0, 0))) 2) := by
  obtain ⟨n, A, _, ⟨h⟩⟩ := roArg_of (0, 0) actC (sz := 2) Try.underlying31 (by kernel_rfl) (fun a y m h => act_of a y m h) hv h
  obtain ⟨l, _, h⟩ := h.list (0, 0)
  exact ⟨l, h⟩
theorem act_ok (l : List (Int × Int)) : RowOk l.length (fun j => actC (l.getD j (0, 0))) 2 := fun _ _ => ⟨rfl, rfl⟩
theorem lPlays (l : List (Int × Int)) (W : World) (v : Value) (h : Nonempty (RoArg W v l.length (fun j => actC (l.getD j (0, 0))) 2)) : Calls Try.prog 5 #[v] W fun e w' => e = .returned (.bool true) ∧ Below W.heap.size W w' := by
  obtain ⟨h⟩ := h
  obtain ⟨ρ, c, e, hr, hfp, hcz⟩ := ro_one h (by decide) (act_ok l)
  exact SPlays_top (c, l, e) trivial ⟨rfl, rfl⟩ (fun o ho => ⟨c, _, _, e, 2, List.mem_singleton.1 ho⟩) ρ W [v] hr hfp (by
    show czl ρ [V.sl 0 0 2 l.length false] = some [v]
    simp only [czl, hcz])
end Go.Proofs.Ytollflfkgcgdkaa
