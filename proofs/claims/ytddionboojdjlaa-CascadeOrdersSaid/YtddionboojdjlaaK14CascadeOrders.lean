/- One text out of 2. -/
import Derived.Test.YtddionboojdjlaaK8CascadeOrders
import Derived.Test.YtddionboojdjlaaSyCR
import Derived.Test.YtddionboojdjlaaCaTombsR
section
namespace Go.Proofs.Ytddionboojdjlaa
set_option maxRecDepth 100000
open Go Go.RowKit Go.ChangeShapes Go.WideShapes Go.Deep Sy Tb Gr

set_option maxRecDepth 100000 in
theorem edge_of {H : Type} {enc : TypeId × Value → H} {W : World} {spare : Nat → Bool} {held : Bool} (a : Addr) (y : DataW H × List MemPlace) (n : Nat)
    (h : (W.cells? 0 a 2).bind (DataW.trod enc Try.prog W 0 spare held n 43) = some y) :
    ∃ (x : Ed) (l : List Value), W.cells? 0 a 2 = some l ∧ czl emptyR [.str x.1, .str x.2] = some l := by
  obtain ⟨cs, hcs, htr⟩ := Option.bind_eq_some_iff.1 h
  obtain ⟨xs, m, _, _, hl, hlen, hfs⟩ := DataW.trod_struct Try.underlying43 htr
  have hl4 : cs.length = 2 := hl.trans (by kernel_rfl)
  match cs, hl4 with
  | [c0, c1], _ =>
    match xs, hlen with
    | [y0, y1], _ =>
      have k0 : DataW.trod enc Try.prog W 0 spare held m 9 [c0] = some y0 := by
        have := hfs 0 _ rfl
        simpa [show Try.prog.cellsOf 9 = 1 from by kernel_rfl] using this
      have k1 : DataW.trod enc Try.prog W 0 spare held m 9 [c1] = some y1 := by
        have := hfs 1 _ rfl
        simpa [show Try.prog.cellsOf 9 = 1 from by kernel_rfl] using this
      obtain ⟨m0, e0, _, _⟩ := DataW.trod_string Try.underlying9 k0
      obtain ⟨m1, e1, _, _⟩ := DataW.trod_string Try.underlying9 k1
      simp at e0 e1
      subst e0 e1
      exact ⟨(m0, m1), _, hcs, rfl⟩
theorem edges_of {H : Type} {enc : TypeId × Value → H} {W : World} {spare : Nat → Bool} {held : Bool} {r : Reach} {b0 : Nat} {v : Value} {d : DataW H} {p : List MemPlace} (hv : Value.okWide Try.prog W r b0 22 v) (h : DataW.Trod enc Try.prog W 0 spare held 22 v d p) :
    ∃ l : List Ed, Nonempty (RoArg W v l.length (fun j => [.str (l.getD j e00).1, .str (l.getD j e00).2]) 2) := by
  obtain ⟨n, A, _, ⟨h⟩⟩ := roArg_of e00 (fun x : Ed => [.str x.1, .str x.2]) (sz := 2) Try.underlying22 (by kernel_rfl) (fun a y m h => edge_of a y m h) hv h
  obtain ⟨l, _, h⟩ := RoArg.list (F := fun x : Ed => ([.str x.1, .str x.2] : List V)) (A := A) e00 h
  exact ⟨l, h⟩
theorem ed_ok (l : List Ed) : RowOk l.length (fun j => [.str (l.getD j e00).1, .str (l.getD j e00).2]) 2 := fun _ _ => ⟨rfl, rfl⟩
end Go.Proofs.Ytddionboojdjlaa
end
section
namespace Go.Proofs.Ytddionboojdjlaa
set_option maxRecDepth 100000
open Go Go.RowKit Go.ChangeShapes Go.WideShapes Go.Deep Sy Tb Gr

theorem str_of {H : Type} {enc : TypeId × Value → H} {W : World} {spare : Nat → Bool} {held : Bool} (a : Addr) (y : DataW H × List MemPlace) (n : Nat)
    (h : (W.cells? 0 a 1).bind (DataW.trod enc Try.prog W 0 spare held n 9) = some y) :
    ∃ (x : Bs) (l : List Value), W.cells? 0 a 1 = some l ∧ czl emptyR [.str x] = some l := by
  obtain ⟨cs, hcs, htr⟩ := Option.bind_eq_some_iff.1 h
  obtain ⟨m0, e0, _, _⟩ := DataW.trod_string Try.underlying9 htr
  subst e0
  exact ⟨m0, _, hcs, rfl⟩
theorem strs_of {H : Type} {enc : TypeId × Value → H} {W : World} {spare : Nat → Bool} {held : Bool} {r : Reach} {b0 : Nat} {v : Value} {d : DataW H} {p : List MemPlace} (hv : Value.okWide Try.prog W r b0 23 v) (h : DataW.Trod enc Try.prog W 0 spare held 23 v d p) :
    ∃ l : List Bs, Nonempty (RoArg W v l.length (fun j => [.str (l.getD j eS)]) 1) := by
  obtain ⟨n, A, _, ⟨h⟩⟩ := roArg_of eS (fun x : Bs => [.str x]) (sz := 1) Try.underlying23 (by kernel_rfl) (fun a y m h => str_of a y m h) hv h
  obtain ⟨l, _, h⟩ := RoArg.list (F := fun x : Bs => ([.str x] : List V)) (A := A) eS h
  exact ⟨l, h⟩
theorem lTombs (l : List Ed) (L : List Bs) (W : World) (v v' : Value) (h : Nonempty (RoArg W v l.length (fun j => [.str (l.getD j e00).1, .str (l.getD j e00).2]) 2)) (h' : Nonempty (RoArg W v' L.length (fun j => [.str (L.getD j eS)]) 1)) :
    Calls Try.prog 4 #[v, v'] W fun e w' => e = .returned (.bool true) ∧ Below W.heap.size W w' := by
  obtain ⟨h⟩ := h
  obtain ⟨h'⟩ := h'
  obtain ⟨p, c, hc, _, hz⟩ := h.fz (by decide) (ed_ok l)
  obtain ⟨p', c', hc', hle, hz'⟩ := h'.fz (by decide) (fun _ _ => ⟨rfl, rfl⟩)
  refine STombsL_top W (_, (p, c, l), (p', c', L)) ⟨hz, hz', hle⟩ rfl ⟨rfl, rfl⟩ [v, v'] ?_
  show czl _ [V.zsl 0 p 2 l.length c, V.zsl 0 p' 1 L.length c'] = some [v, v']
  simp only [czl, hc, hc']
end Go.Proofs.Ytddionboojdjlaa
end
