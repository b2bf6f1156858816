/- A list of calls among the arguments. -/
import Derived.Test.YtfkolddpfpjeeaaTbPlays
import Derived.Test.YtfkolddpfpjeeaaSyOpen
namespace Go.Proofs.Ytfkolddpfpjeeaa
open Go Go.RowKit Go.ChangeShapes Go.WideShapes Go.Deep Sy

set_option maxRecDepth 100000 in
theorem act_of {H : Type} {enc : TypeId × Value → H} {W : World} {spare : Nat → Bool} {held : Bool} (a : Addr) (y : DataW H × List MemPlace) (n : Nat)
    (h : (W.cells? 0 a 3).bind (DataW.trod enc Try.prog W 0 spare held n 51) = some y) :
    ∃ (x : Act) (l : List Value), W.cells? 0 a 3 = some l ∧ czl emptyR (actC x) = some l := by
  obtain ⟨cs, hcs, htr⟩ := Option.bind_eq_some_iff.1 h
  obtain ⟨xs, m, _, _, hl, hlen, hfs⟩ := DataW.trod_struct Try.underlying51 htr
  have hl4 : cs.length = 3 := hl.trans (by kernel_rfl)
  match cs, hl4 with
  | [c0, c1, c2], _ =>
    match xs, hlen with
    | [y0, y1, y2], _ =>
      have k0 : DataW.trod enc Try.prog W 0 spare held m 3 [c0] = some y0 := by
        have := hfs 0 _ rfl
        simpa [show Try.prog.cellsOf 3 = 1 from by kernel_rfl] using this
      have k1 : DataW.trod enc Try.prog W 0 spare held m 9 [c1] = some y1 := by
        have := hfs 1 _ rfl
        simpa [show Try.prog.cellsOf 9 = 1 from by kernel_rfl] using this
      have k2 : DataW.trod enc Try.prog W 0 spare held m 3 [c2] = some y2 := by
        have := hfs 2 _ rfl
        simpa [show Try.prog.cellsOf 3 = 1 from by kernel_rfl] using this
      obtain ⟨m0, e0, _, _⟩ := DataW.trod_int Try.underlying3 k0
      obtain ⟨m1, e1, _, _⟩ := DataW.trod_string Try.underlying9 k1
      obtain ⟨m2, e2, _, _⟩ := DataW.trod_int Try.underlying3 k2
      simp at e0 e1 e2
      subst e0 e1 e2
      exact ⟨(m0, m1, m2), _, hcs, rfl⟩
theorem acts_of {H : Type} {enc : TypeId × Value → H} {W : World} {spare : Nat → Bool} {held : Bool} {r : Reach} {b0 : Nat} {v : Value} {d : DataW H} {p : List MemPlace} (hv : Value.okWide Try.prog W r b0 47 v) (h : DataW.Trod enc Try.prog W 0 spare held 47 v d p) :
    ∃ l : List Act, Nonempty (RoArg W v l.length (fun j => actC (l.getD j act0)) 3) := by
  obtain ⟨n, A, _, ⟨h⟩⟩ := roArg_of act0 actC (sz := 3) Try.underlying47 (by kernel_rfl) (fun a y m h => act_of a y m h) hv h
  obtain ⟨l, _, h⟩ := h.list act0
  exact ⟨l, h⟩
theorem act_ok (l : List Act) : RowOk l.length (fun j => actC (l.getD j act0)) 3 := fun _ _ => ⟨rfl, rfl⟩
theorem lPlays (seed : Int) (hs : 0 ≤ seed ∧ seed < 18446744073709551616) (l : List Act) (W : World) (v : Value) (h : Nonempty (RoArg W v l.length (fun j => actC (l.getD j act0)) 3)) : Calls Try.prog 6 #[.int .u64 seed, v] W fun e w' => e = .returned (.bool true) ∧ Below W.heap.size W w' := by
  obtain ⟨h⟩ := h
  obtain ⟨ρ, c, e, hr, hfp, hcz⟩ := ro_one h (by decide) (act_ok l)
  exact SPlays_top ((c, l, e), seed) hs ⟨rfl, rfl⟩ (fun o ho => ⟨c, _, _, e, 3, List.mem_singleton.1 ho⟩) ρ W [.int .u64 seed, v] hr hfp (by
    show czl ρ [u64 seed, V.sl 0 0 3 l.length false] = some [.int .u64 seed, v]
    simp only [czl, hcz]
    rfl)
end Go.Proofs.Ytfkolddpfpjeeaa
