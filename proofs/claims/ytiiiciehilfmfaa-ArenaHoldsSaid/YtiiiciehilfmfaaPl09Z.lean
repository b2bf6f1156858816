/- ArenaPlays: the argument, a list of calls, opened. -/
import Derived.Test.YtiiiciehilfmfaaPl09
import Derived.Lib.SmallJoins
namespace Go.Proofs.Ytiiiciehilfmfaa
open Go.RowKit Go.ChangeShapes Go.WideShapes Go.Deep

/-- A list of calls that can be read. -/
def ActsAt (w : World) (n : Nat) (pl : Option Addr) (aw an ag : Nat → Int) : Prop :=
  ∀ i, i < n → ∃ a, pl = some a ∧ w.cells? 0 (a.add (i * 3)) 3 = some [.int .i64 (aw i), .int .i64 (an i), .int .i64 (ag i)]

set_option maxRecDepth 100000 in
theorem act_of {H : Type} {enc : TypeId × Value → H} {W : World} {base : Nat} {spare : Nat → Bool} {held : Bool} {n : Nat} {a : Addr} {y : DataW H × List MemPlace}
    (h : (W.cells? base a (Try.prog.cellsOf 39)).bind (DataW.trod enc Try.prog W base spare held n 39) = some y) :
    ∃ x0 x1 x2 : Int, W.cells? base a 3 = some [.int .i64 x0, .int .i64 x1, .int .i64 x2] := by
  obtain ⟨cs, hcs, htr⟩ := Option.bind_eq_some_iff.1 h
  rw [show Try.prog.cellsOf 39 = 3 from by kernel_rfl] at hcs
  obtain ⟨xs, m, _, _, hl, hlen, hfs⟩ := DataW.trod_struct Try.underlying39 htr
  have hl4 : cs.length = 3 := hl.trans (by kernel_rfl)
  match cs, hl4 with
  | [c0, c1, c2], _ =>
    match xs, hlen with
    | [y0, y1], _ =>
      have k0 : DataW.trod enc Try.prog W base spare held m 3 [c0] = some y0 := by
        have := hfs 0 _ rfl
        simpa [show Try.prog.cellsOf 3 = 1 from by kernel_rfl] using this
      have k1 : DataW.trod enc Try.prog W base spare held m 30 [c1, c2] = some y1 := by
        have := hfs 1 _ rfl
        simpa [show Try.prog.cellsOf 30 = 2 from by kernel_rfl] using this
      obtain ⟨zs, n2, _, _, _, hlen2, hfs2⟩ := DataW.trod_struct Try.underlying30 k1
      match zs, hlen2 with
      | [z0, z1], _ =>
        have q0 : DataW.trod enc Try.prog W base spare held n2 3 [c1] = some z0 := by
          have := hfs2 0 _ rfl
          simpa [show Try.prog.cellsOf 3 = 1 from by kernel_rfl] using this
        have q1 : DataW.trod enc Try.prog W base spare held n2 3 [c2] = some z1 := by
          have := hfs2 1 _ rfl
          simpa [show Try.prog.cellsOf 3 = 1 from by kernel_rfl] using this
        obtain ⟨m0, e0, _, _⟩ := DataW.trod_int Try.underlying3 k0
        obtain ⟨m1, e1, _, _⟩ := DataW.trod_int Try.underlying3 q0
        obtain ⟨m2, e2, _, _⟩ := DataW.trod_int Try.underlying3 q1
        simp at e0 e1 e2
        subst e0 e1 e2
        exact ⟨_, _, _, hcs⟩

set_option maxRecDepth 100000 in
theorem acts_of {H : Type} {enc : TypeId × Value → H} {W : World} {spare : Nat → Bool} {held : Bool} {r : Reach} {b0 : Nat} {v : Value} {d : DataW H} {p : List MemPlace} (hv : Value.okWide Try.prog W r b0 36 v) (h : DataW.Trod enc Try.prog W 0 spare held 36 v d p) :
    ∃ pl n cl aw an ag, v = .slice pl n cl ∧ n ≤ maxLen ∧ ActsAt W n pl aw an ag := by
  obtain ⟨a0, len0, cap0, rfl⟩ := okWide_slice Try.underlying36 hv
  obtain ⟨fuel, hf⟩ := h
  rcases DataW.trod_slice Try.underlying36 hf with ⟨e1, _⟩ | ⟨a, len, cap, elems, rest, n3, _, e1, _, _, hl, hm, hlen3, hel, _⟩
  · simp [Value.cells] at e1; obtain ⟨rfl, rfl, rfl⟩ := e1; exact ⟨_, _, _, fun _ => 0, fun _ => 0, fun _ => 0, rfl, Nat.zero_le _, fun i hi => absurd hi (Nat.not_lt_zero i)⟩
  · simp [Value.cells] at e1
    have each : ∀ i, i < len → ∃ t : Int × Int × Int, W.cells? 0 (a.add (i * 3)) 3 = some [.int .i64 t.1, .int .i64 t.2.1, .int .i64 t.2.2] := fun i hi => by
      have := hel i hi
      rw [show elems[i]? = some elems[i] from List.getElem?_eq_getElem (by omega)] at this
      have h4 : i * Try.prog.cellsOf 39 = i * 3 := by rw [show Try.prog.cellsOf 39 = 3 from by kernel_rfl]
      rw [h4] at this
      obtain ⟨x0, x1, x2, h⟩ := act_of this
      exact ⟨(x0, x1, x2), h⟩
    obtain ⟨f, hf⟩ : ∃ f : Nat → Int × Int × Int, ∀ i, i < len → W.cells? 0 (a.add (i * 3)) 3 = some [.int .i64 (f i).1, .int .i64 (f i).2.1, .int .i64 (f i).2.2] := by
      refine ⟨fun i => if hi : i < len then Classical.choose (each i hi) else (0, 0, 0), fun i hi => ?_⟩
      have := Classical.choose_spec (each i hi)
      simpa only [dif_pos hi] using this
    exact ⟨some a, len, cap, fun i => (f i).1, fun i => (f i).2.1, fun i => (f i).2.2, by rw [e1.1, e1.2.1, e1.2.2], by omega, fun i hi => ⟨a, rfl, hf i hi⟩⟩
end Go.Proofs.Ytiiiciehilfmfaa
