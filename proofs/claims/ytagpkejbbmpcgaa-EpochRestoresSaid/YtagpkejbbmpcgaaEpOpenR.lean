/- A list of calls among the arguments; for the laws of the epochs. -/
import Derived.Test.YtagpkejbbmpcgaaEpLawR
namespace Go.Proofs.Ytagpkejbbmpcgaa
open Go Go.RowKit Go.ChangeShapes Go.WideShapes Go.Deep Sy Ti

set_option maxRecDepth 100000
abbrev TAp := { a : ActP // 0 ≤ a.2.2 ∧ a.2.2 < 18446744073709551616 }
def tap0 : TAp := ⟨ap0, by unfold ap0; decide⟩
theorem act_of {H : Type} {enc : TypeId × Value → H} {W : World} {spare : Nat → Bool} {held : Bool} (a : Addr) (y : DataW H × List MemPlace) (n : Nat)
    (h : (W.cells? 0 a 3).bind (DataW.trod enc Try.prog W 0 spare held n 43) = some y) :
    ∃ (x : TAp) (l : List Value), W.cells? 0 a 3 = some l ∧ czl emptyR (apC x.1) = some l := by
  obtain ⟨cs, hcs, htr⟩ := Option.bind_eq_some_iff.1 h
  obtain ⟨xs, m, _, _, hl, hlen, hfs⟩ := DataW.trod_struct Try.underlying43 htr
  have hl4 : cs.length = 3 := hl.trans (by kernel_rfl)
  match cs, hl4 with
  | [c0, c1, c2], _ =>
    match xs, hlen with
    | [y0, y1, y2], _ =>
      have k0 : DataW.trod enc Try.prog W 0 spare held m 3 [c0] = some y0 := by
        have := hfs 0 _ rfl
        simpa [show Try.prog.cellsOf 3 = 1 from by kernel_rfl] using this
      have k1 : DataW.trod enc Try.prog W 0 spare held m 9 [c1] = some y1 := by
        have := hfs 1 _ rfl
        simpa [show Try.prog.cellsOf 9 = 1 from by kernel_rfl] using this
      have k2 : DataW.trod enc Try.prog W 0 spare held m 29 [c2] = some y2 := by
        have := hfs 2 _ rfl
        simpa [show Try.prog.cellsOf 29 = 1 from by kernel_rfl] using this
      obtain ⟨m0, e0, _, _⟩ := DataW.trod_int Try.underlying3 k0
      obtain ⟨m1, e1, _, _⟩ := DataW.trod_string Try.underlying9 k1
      obtain ⟨m2, e2, _, hw⟩ := DataW.trod_int Try.underlying29 k2
      simp at e0 e1 e2
      subst e0 e1 e2
      exact ⟨⟨(m0, m1, m2), u64_wf hw⟩, _, hcs, rfl⟩
theorem acts_of {H : Type} {enc : TypeId × Value → H} {W : World} {spare : Nat → Bool} {held : Bool} {r : Reach} {b0 : Nat} {v : Value} {d : DataW H} {p : List MemPlace} (hv : Value.okWide Try.prog W r b0 39 v) (h : DataW.Trod enc Try.prog W 0 spare held 39 v d p) :
    ∃ l : List ActP, (∀ a ∈ l, 0 ≤ a.2.2 ∧ a.2.2 < 18446744073709551616) ∧ Nonempty (RoArg W v l.length (fun j => apC (l.getD j ap0)) 3) := by
  obtain ⟨n, A, _, ⟨h⟩⟩ := roArg_of tap0 (fun x : TAp => apC x.1) (sz := 3) Try.underlying39 (by kernel_rfl) (fun a y m h => act_of a y m h) hv h
  obtain ⟨l, _, ⟨h⟩⟩ := RoArg.list (F := fun x : TAp => apC x.1) (A := A) tap0 h
  refine ⟨l.map (·.1), fun t ht => ?_, ?_⟩
  · obtain ⟨x, _, rfl⟩ := List.mem_map.1 ht
    exact x.2
  · have e : (fun j => apC ((l.map (·.1)).getD j ap0)) = fun j => apC (l.getD j tap0).1 := by
      funext j
      rw [List.getD_eq_getElem?_getD, List.getD_eq_getElem?_getD, List.getElem?_map]
      cases l[j]? <;> rfl
    rw [e, List.length_map]
    exact ⟨h⟩
theorem ap_ok (l : List ActP) : RowOk l.length (fun j => apC (l.getD j ap0)) 3 := fun _ _ => ⟨rfl, rfl⟩
end Go.Proofs.Ytagpkejbbmpcgaa
