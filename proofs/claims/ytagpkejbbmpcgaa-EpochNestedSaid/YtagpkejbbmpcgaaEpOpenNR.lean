/- The law EpochNested at its arguments. -/
import Derived.Test.YtagpkejbbmpcgaaEpOpenR
import Derived.Test.YtagpkejbbmpcgaaEpNestR
namespace Go.Proofs.Ytagpkejbbmpcgaa
open Go Go.RowKit Go.ChangeShapes Go.WideShapes Go.Deep Sy Ti
set_option maxRecDepth 100000

abbrev TU8 := { a : Int // 0 ≤ a ∧ a < 256 }
def tu0 : TU8 := ⟨0, by decide⟩
theorem u8_of {H : Type} {enc : TypeId × Value → H} {W : World} {spare : Nat → Bool} {held : Bool} (a : Addr) (y : DataW H × List MemPlace) (n : Nat)
    (h : (W.cells? 0 a 1).bind (DataW.trod enc Try.prog W 0 spare held n 5) = some y) :
    ∃ (x : TU8) (l : List Value), W.cells? 0 a 1 = some l ∧ czl emptyR [.int .u8 x.1] = some l := by
  obtain ⟨cs, hcs, htr⟩ := Option.bind_eq_some_iff.1 h
  obtain ⟨m0, e0, _, hw⟩ := DataW.trod_int Try.underlying5 htr
  subst e0
  exact ⟨⟨m0, u8_wf hw⟩, _, hcs, rfl⟩
theorem u8s_of {H : Type} {enc : TypeId × Value → H} {W : World} {spare : Nat → Bool} {held : Bool} {r : Reach} {b0 : Nat} {v : Value} {d : DataW H} {p : List MemPlace} (hv : Value.okWide Try.prog W r b0 22 v) (h : DataW.Trod enc Try.prog W 0 spare held 22 v d p) :
    ∃ l : List Int, (∀ a ∈ l, 0 ≤ a ∧ a < 256) ∧ Nonempty (RoArg W v l.length (fun j => [.int .u8 (l.getD j 0)]) 1) := by
  obtain ⟨n, A, _, ⟨h⟩⟩ := roArg_of tu0 (fun x : TU8 => [.int .u8 x.1]) (sz := 1) Try.underlying22 (by kernel_rfl) (fun a y m h => u8_of a y m h) hv h
  obtain ⟨l, _, ⟨h⟩⟩ := RoArg.list (F := fun x : TU8 => ([.int .u8 x.1] : List V)) (A := A) tu0 h
  refine ⟨l.map (·.1), fun t ht => ?_, ?_⟩
  · obtain ⟨x, _, rfl⟩ := List.mem_map.1 ht
    exact x.2
  · have e : (fun j => ([.int .u8 ((l.map (·.1)).getD j 0)] : List V)) = fun j => [.int .u8 (l.getD j tu0).1] := by
      funext j
      rw [List.getD_eq_getElem?_getD, List.getD_eq_getElem?_getD, List.getElem?_map]
      cases l[j]? <;> rfl
    rw [e, List.length_map]
    exact ⟨h⟩
theorem lENest (s : Bs) (l : List Int) (hts : ∀ a ∈ l, 0 ≤ a ∧ a < 256) (W : World) (v : Value) (h : Nonempty (RoArg W v l.length (fun j => [.int .u8 (l.getD j 0)]) 1)) : Calls Try.prog 3 #[.string s, v] W fun e w' => e = .returned (.bool true) ∧ Below W.heap.size W w' := by
  obtain ⟨h⟩ := h
  obtain ⟨ρ, c, e, hr, hfp, hcz⟩ := ro_one h (by decide) (fun _ _ => ⟨rfl, rfl⟩)
  exact ENestL_top (s, c, l, e) hts ⟨rfl, rfl⟩ (fun o ho => ⟨c, _, _, e, 1, List.mem_singleton.1 ho⟩) ρ W [.string s, v] hr hfp (by
    show czl ρ [V.str s, V.sl 0 0 1 l.length false] = some [.string s, v]
    simp only [czl, hcz]
    rfl)
end Go.Proofs.Ytagpkejbbmpcgaa
