/- The law EpochRestores at its arguments. -/
import Derived.Test.YtagpkejbbmpcgaaEpOpenR
import Derived.Test.YtagpkejbbmpcgaaEpRstR
namespace Go.Proofs.Ytagpkejbbmpcgaa
open Go Go.RowKit Go.ChangeShapes Go.WideShapes Go.Deep Sy Ti
set_option maxRecDepth 100000

abbrev TPr := { x : Pr // x.2 < 18446744073709551616 }
def tpr0 : TPr := ⟨p00, by unfold p00; decide⟩
theorem pr_of {H : Type} {enc : TypeId × Value → H} {W : World} {spare : Nat → Bool} {held : Bool} (a : Addr) (y : DataW H × List MemPlace) (n : Nat)
    (h : (W.cells? 0 a 2).bind (DataW.trod enc Try.prog W 0 spare held n 32) = some y) :
    ∃ (x : TPr) (l : List Value), W.cells? 0 a 2 = some l ∧ czl emptyR [.str x.1.1, u64 x.1.2] = some l := by
  obtain ⟨cs, hcs, htr⟩ := Option.bind_eq_some_iff.1 h
  obtain ⟨xs, m, _, _, hl, hlen, hfs⟩ := DataW.trod_struct Try.underlying32 htr
  have hl4 : cs.length = 2 := hl.trans (by kernel_rfl)
  match cs, hl4 with
  | [c0, c1], _ =>
    match xs, hlen with
    | [y0, y1], _ =>
      have k0 : DataW.trod enc Try.prog W 0 spare held m 9 [c0] = some y0 := by
        have := hfs 0 _ rfl
        simpa [show Try.prog.cellsOf 9 = 1 from by kernel_rfl] using this
      have k1 : DataW.trod enc Try.prog W 0 spare held m 29 [c1] = some y1 := by
        have := hfs 1 _ rfl
        simpa [show Try.prog.cellsOf 29 = 1 from by kernel_rfl] using this
      obtain ⟨m0, e0, _, _⟩ := DataW.trod_string Try.underlying9 k0
      obtain ⟨m1, e1, _, hw⟩ := DataW.trod_int Try.underlying29 k1
      simp at e0 e1
      subst e0 e1
      exact ⟨⟨(m0, m1), (u64_wf hw).2⟩, _, hcs, rfl⟩
theorem prs_of {H : Type} {enc : TypeId × Value → H} {W : World} {spare : Nat → Bool} {held : Bool} {r : Reach} {b0 : Nat} {v : Value} {d : DataW H} {p : List MemPlace} (hv : Value.okWide Try.prog W r b0 30 v) (h : DataW.Trod enc Try.prog W 0 spare held 30 v d p) :
    ∃ l : List Pr, (∀ a ∈ l, a.2 < 18446744073709551616) ∧ Nonempty (RoArg W v l.length (fun j => [.str (l.getD j p00).1, u64 (l.getD j p00).2]) 2) := by
  obtain ⟨n, A, _, ⟨h⟩⟩ := roArg_of tpr0 (fun x : TPr => [.str x.1.1, u64 x.1.2]) (sz := 2) Try.underlying30 (by kernel_rfl) (fun a y m h => pr_of a y m h) hv h
  obtain ⟨l, _, ⟨h⟩⟩ := RoArg.list (F := fun x : TPr => ([.str x.1.1, u64 x.1.2] : List V)) (A := A) tpr0 h
  refine ⟨l.map (·.1), fun t ht => ?_, ?_⟩
  · obtain ⟨x, _, rfl⟩ := List.mem_map.1 ht
    exact x.2
  · have e : (fun j => ([.str ((l.map (·.1)).getD j p00).1, u64 ((l.map (·.1)).getD j p00).2] : List V)) = fun j => [.str (l.getD j tpr0).1.1, u64 (l.getD j tpr0).1.2] := by
      funext j
      rw [List.getD_eq_getElem?_getD, List.getD_eq_getElem?_getD, List.getElem?_map]
      cases l[j]? <;> rfl
    rw [e, List.length_map]
    exact ⟨h⟩
theorem lERst (f la : Int) (l : List Pr) (A : List ActP) (hf : 0 ≤ f ∧ f < 18446744073709551616) (hl : 0 ≤ la ∧ la < 18446744073709551616) (hp : ∀ a ∈ l, a.2 < 18446744073709551616) (ht : ∀ a ∈ A, 0 ≤ a.2.2 ∧ a.2.2 < 18446744073709551616) (W : World) (v v' : Value) (h : Nonempty (RoArg W v l.length (fun j => [.str (l.getD j p00).1, u64 (l.getD j p00).2]) 2)) (h' : Nonempty (RoArg W v' A.length (fun j => apC (A.getD j ap0)) 3)) :
    Calls Try.prog 6 #[.int .u64 f, .int .u64 la, v, v'] W fun e w' => e = .returned (.bool true) ∧ Below W.heap.size W w' := by
  obtain ⟨h⟩ := h
  obtain ⟨h'⟩ := h'
  obtain ⟨p, c, hc, _, hz⟩ := h.fz (by decide) (fun _ _ => ⟨rfl, rfl⟩)
  obtain ⟨p', c', hc', _, hz'⟩ := h'.fz (by decide) (ap_ok A)
  refine ERstL_top W (((f, la), _), (p, c, l), (p', c', A)) ⟨⟨hz, hz'⟩, hf, hl, hp, ht⟩ rfl ⟨rfl, rfl⟩ [.int .u64 f, .int .u64 la, v, v'] ?_
  show czl _ [u64 f, u64 la, V.zsl 0 p 2 l.length c, V.zsl 0 p' 3 A.length c'] = some [.int .u64 f, .int .u64 la, v, v']
  simp only [czl, hc, hc']
  rfl
end Go.Proofs.Ytagpkejbbmpcgaa
