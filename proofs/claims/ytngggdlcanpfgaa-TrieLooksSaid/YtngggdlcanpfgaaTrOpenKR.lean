/- Lists of strings among the arguments; TrieLooks at them. -/
import Derived.Test.YtngggdlcanpfgaaTrOpenR
import Derived.Test.YtngggdlcanpfgaaTrLooksR
namespace Go.Proofs.Ytngggdlcanpfgaa
set_option maxRecDepth 100000
open Go Go.RowKit Go.ChangeShapes Go.WideShapes Go.Deep Sy Ti

theorem str_of {H : Type} {enc : TypeId × Value → H} {W : World} {spare : Nat → Bool} {held : Bool} (a : Addr) (y : DataW H × List MemPlace) (n : Nat)
    (h : (W.cells? 0 a 1).bind (DataW.trod enc Try.prog W 0 spare held n 9) = some y) :
    ∃ (x : Bs) (l : List Value), W.cells? 0 a 1 = some l ∧ czl emptyR [.str x] = some l := by
  obtain ⟨cs, hcs, htr⟩ := Option.bind_eq_some_iff.1 h
  obtain ⟨m0, e0, _, _⟩ := DataW.trod_string Try.underlying9 htr
  subst e0
  exact ⟨m0, _, hcs, rfl⟩
theorem strs_of {H : Type} {enc : TypeId × Value → H} {W : World} {spare : Nat → Bool} {held : Bool} {r : Reach} {b0 : Nat} {v : Value} {d : DataW H} {p : List MemPlace} (hv : Value.okWide Try.prog W r b0 22 v) (h : DataW.Trod enc Try.prog W 0 spare held 22 v d p) :
    ∃ l : List Bs, Nonempty (RoArg W v l.length (fun j => [.str (l.getD j eS)]) 1) := by
  obtain ⟨n, A, _, ⟨h⟩⟩ := roArg_of eS (fun x : Bs => [.str x]) (sz := 1) Try.underlying22 (by kernel_rfl) (fun a y m h => str_of a y m h) hv h
  obtain ⟨l, _, h⟩ := RoArg.list (F := fun x : Bs => ([.str x] : List V)) (A := A) eS h
  exact ⟨l, h⟩
theorem lLooks (l l2 : List Bs) (t : Int) (ht : 0 ≤ t ∧ t < 256) (W : World) (v v' : Value) (h : Nonempty (RoArg W v l.length (fun j => [.str (l.getD j eS)]) 1)) (h' : Nonempty (RoArg W v' l2.length (fun j => [.str (l2.getD j eS)]) 1)) :
    Calls Try.prog 3 #[v, .int .u8 t, v'] W fun e w' => e = .returned (.bool true) ∧ Below W.heap.size W w' := by
  obtain ⟨h⟩ := h
  obtain ⟨h'⟩ := h'
  obtain ⟨p, c, hc, _, hz⟩ := h.fz (by decide) (fun _ _ => ⟨rfl, rfl⟩)
  obtain ⟨p', c', hc', _, hz'⟩ := h'.fz (by decide) (fun _ _ => ⟨rfl, rfl⟩)
  refine SLooksL_top W (_, (p, c, l), (p', c', l2), t) ⟨⟨hz, hz'⟩, ht⟩ rfl ⟨rfl, rfl⟩ [v, .int .u8 t, v'] ?_
  show czl _ [V.zsl 0 p 1 l.length c, V.int .u8 t, V.zsl 0 p' 1 l2.length c'] = some [v, .int .u8 t, v']
  simp only [czl, hc, hc']
  rfl
end Go.Proofs.Ytngggdlcanpfgaa
