/- The law GraphPlays at its arguments. -/
import Derived.Test.YtmgcpfljhcahoaaSyCR
import Derived.Test.YtmgcpfljhcahoaaGrPlaysR
namespace Go.Proofs.Ytmgcpfljhcahoaa
open Go Go.RowKit Go.ChangeShapes Go.WideShapes Go.Deep Sy Tb Gr
set_option maxRecDepth 100000

theorem act_of {H : Type} {enc : TypeId × Value → H} {W : World} {spare : Nat → Bool} {held : Bool} (a : Addr) (y : DataW H × List MemPlace) (n : Nat)
    (h : (W.cells? 0 a 4).bind (DataW.trod enc Try.prog W 0 spare held n 65) = some y) :
    ∃ (x : ActG) (l : List Value), W.cells? 0 a 4 = some l ∧ czl emptyR (agC x) = some l := by
  obtain ⟨cs, hcs, htr⟩ := Option.bind_eq_some_iff.1 h
  obtain ⟨xs, m, _, _, hl, hlen, hfs⟩ := DataW.trod_struct Try.underlying65 htr
  have hl4 : cs.length = 4 := hl.trans (by kernel_rfl)
  match cs, hl4 with
  | [c0, c1, c2, c3], _ =>
    match xs, hlen with
    | [y0, y1, y2, y3], _ =>
      have k0 : DataW.trod enc Try.prog W 0 spare held m 3 [c0] = some y0 := by
        have := hfs 0 _ rfl
        simpa [show Try.prog.cellsOf 3 = 1 from by kernel_rfl] using this
      have k1 : DataW.trod enc Try.prog W 0 spare held m 9 [c1] = some y1 := by
        have := hfs 1 _ rfl
        simpa [show Try.prog.cellsOf 9 = 1 from by kernel_rfl] using this
      have k2 : DataW.trod enc Try.prog W 0 spare held m 9 [c2] = some y2 := by
        have := hfs 2 _ rfl
        simpa [show Try.prog.cellsOf 9 = 1 from by kernel_rfl] using this
      have k3 : DataW.trod enc Try.prog W 0 spare held m 3 [c3] = some y3 := by
        have := hfs 3 _ rfl
        simpa [show Try.prog.cellsOf 3 = 1 from by kernel_rfl] using this
      obtain ⟨m0, e0, _, _⟩ := DataW.trod_int Try.underlying3 k0
      obtain ⟨m1, e1, _, _⟩ := DataW.trod_string Try.underlying9 k1
      obtain ⟨m2, e2, _, _⟩ := DataW.trod_string Try.underlying9 k2
      obtain ⟨m3, e3, _, _⟩ := DataW.trod_int Try.underlying3 k3
      simp at e0 e1 e2 e3
      subst e0 e1 e2 e3
      exact ⟨(m0, m1, m2, m3), _, hcs, rfl⟩
theorem acts_of {H : Type} {enc : TypeId × Value → H} {W : World} {spare : Nat → Bool} {held : Bool} {r : Reach} {b0 : Nat} {v : Value} {d : DataW H} {p : List MemPlace} (hv : Value.okWide Try.prog W r b0 60 v) (h : DataW.Trod enc Try.prog W 0 spare held 60 v d p) :
    ∃ l : List ActG, Nonempty (RoArg W v l.length (fun j => agC (l.getD j ag0)) 4) := by
  obtain ⟨n, A, _, ⟨h⟩⟩ := roArg_of ag0 (fun x : ActG => agC x) (sz := 4) Try.underlying60 (by kernel_rfl) (fun a y m h => act_of a y m h) hv h
  obtain ⟨l, _, h⟩ := RoArg.list (F := fun x : ActG => agC x) (A := A) ag0 h
  exact ⟨l, h⟩
theorem lGPlays (N M : Int) (l : List ActG) (W : World) (v : Value) (h : Nonempty (RoArg W v l.length (fun j => agC (l.getD j ag0)) 4)) : Calls Try.prog 7 #[.int .i64 N, .int .i64 M, v] W fun e w' => e = .returned (.bool true) ∧ Below W.heap.size W w' := by
  obtain ⟨h⟩ := h
  obtain ⟨ρ, c, e, hr, hfp, hcz⟩ := ro_one h (by decide) (fun _ _ => ⟨rfl, rfl⟩)
  exact SPlaysL_top ((N, M), c, l, e) trivial ⟨rfl, rfl⟩ (fun o ho => ⟨c, _, _, e, 4, List.mem_singleton.1 ho⟩) ρ W [.int .i64 N, .int .i64 M, v] hr hfp (by
    show czl ρ [i64 N, i64 M, V.sl 0 0 4 l.length false] = some [.int .i64 N, .int .i64 M, v]
    simp only [czl, hcz]
    rfl)
end Go.Proofs.Ytmgcpfljhcahoaa
