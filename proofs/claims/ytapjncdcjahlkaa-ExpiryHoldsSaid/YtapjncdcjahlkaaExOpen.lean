/- A list of times among the arguments. -/
import Derived.Test.YtapjncdcjahlkaaExSorts
import Derived.Test.YtapjncdcjahlkaaSyOpen
namespace Go.Proofs.Ytapjncdcjahlkaa
open Go Go.RowKit Go.ChangeShapes Go.WideShapes Go.Deep Sy Ex

abbrev TT := { t : Int // timeOk t }
def tt0 : TT := ⟨0, by unfold timeOk; omega⟩
set_option maxRecDepth 100000 in
theorem time_of {H : Type} {enc : TypeId × Value → H} {W : World} {spare : Nat → Bool} {held : Bool} (a : Addr) (y : DataW H × List MemPlace) (n : Nat)
    (h : (W.cells? 0 a 1).bind (DataW.trod enc Try.prog W 0 spare held n 24) = some y) :
    ∃ (x : TT) (l : List Value), W.cells? 0 a 1 = some l ∧ czl emptyR [u64 x.1] = some l := by
  obtain ⟨cs, hcs, htr⟩ := Option.bind_eq_some_iff.1 h
  obtain ⟨m0, e0, _, hw⟩ := DataW.trod_int Try.underlying24 htr
  subst e0
  exact ⟨⟨m0, u64_wf hw⟩, _, hcs, rfl⟩
set_option maxRecDepth 100000 in
theorem times_of {H : Type} {enc : TypeId × Value → H} {W : World} {spare : Nat → Bool} {held : Bool} {r : Reach} {b0 : Nat} {v : Value} {d : DataW H} {p : List MemPlace} (hv : Value.okWide Try.prog W r b0 22 v) (h : DataW.Trod enc Try.prog W 0 spare held 22 v d p) :
    ∃ l : List Int, (∀ t ∈ l, timeOk t) ∧ Nonempty (RoArg W v l.length (fun j => [u64 (l.getD j 0)]) 1) := by
  obtain ⟨n, A, _, ⟨h⟩⟩ := roArg_of tt0 (fun x : TT => [u64 x.1]) (sz := 1) Try.underlying22 (by kernel_rfl) (fun a y m h => time_of a y m h) hv h
  obtain ⟨l, _, ⟨h⟩⟩ := RoArg.list (F := fun x : TT => [u64 x.1]) (A := A) tt0 h
  refine ⟨l.map (·.1), fun t ht => ?_, ?_⟩
  · obtain ⟨x, _, rfl⟩ := List.mem_map.1 ht
    exact x.2
  · have e : (fun j => [u64 ((l.map (·.1)).getD j 0)]) = fun j => [u64 (l.getD j tt0).1] := by
      funext j
      rw [List.getD_eq_getElem?_getD, List.getD_eq_getElem?_getD, List.getElem?_map]
      cases l[j]? <;> rfl
    rw [e, List.length_map]
    exact ⟨h⟩
theorem ts_ok (l : List Int) : RowOk l.length (fun j => [u64 (l.getD j 0)]) 1 := fun _ _ => ⟨rfl, rfl⟩
theorem lSorts (l : List Int) (step now : Int) (hts : ∀ t ∈ l, timeOk t) (W : World) (v : Value) (h : Nonempty (RoArg W v l.length (fun j => [u64 (l.getD j 0)]) 1)) : Calls Try.prog 3 #[v, .int .i64 step, .int .u64 now] W fun e w' => e = .returned (.bool true) ∧ Below W.heap.size W w' := by
  obtain ⟨h⟩ := h
  obtain ⟨ρ, c, e, hr, hfp, hcz⟩ := ro_one h (by decide) (ts_ok l)
  exact SSorts_top ((c, l, e), step, now) hts ⟨rfl, rfl⟩ (fun o ho => ⟨c, _, _, e, 1, List.mem_singleton.1 ho⟩) ρ W [v, .int .i64 step, .int .u64 now] hr hfp (by
    show czl ρ [V.sl 0 0 1 l.length false, i64 step, u64 now] = some [v, .int .i64 step, .int .u64 now]
    simp only [czl, hcz]
    rfl)
end Go.Proofs.Ytapjncdcjahlkaa
