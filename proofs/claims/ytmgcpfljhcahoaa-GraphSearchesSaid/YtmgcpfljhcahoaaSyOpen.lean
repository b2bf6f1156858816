/- Arguments that are slices, opened. -/
import Derived.Test.YtmgcpfljhcahoaaSyTop
import Derived.Lib.SmallJoins
namespace Go.Proofs.Ytmgcpfljhcahoaa
open Go Go.RowKit Go.ChangeShapes Go.WideShapes Go.Deep
namespace Sy
variable {md : Bool}
section
variable {P : Program} {W : World} {r : Reach} {base : Nat} {t e : TypeId} {v : Value}

theorem slice_has (hd : P.underlying t = some (.slice e)) (h : Value.okWide P W r base t v) : v = .slice none 0 0 ∨ ∃ b off n cap arr e' fr, v = .slice (some ⟨b, off, none⟩) n cap ∧ n ≤ cap ∧ W.heap[b]? = some (.cells arr e' fr) := by
  simp only [Value.okWide, hd, Cell.okWide] at h
  cases v <;> simp [Cell.ok, hd] at h
  rename_i a len cap
  cases a with
  | none =>
    left
    match len, cap, h with
    | 0, 0, _ => rfl
  | some a =>
    right
    simp only at h
    obtain ⟨h1, _, _, h2, row, cells, h3, _⟩ := h
    unfold World.shape? at h3
    split at h3
    · rename_i arr e' fr hb
      obtain ⟨b, off, spot⟩ := a
      simp only at h2 hb
      subst h2
      exact ⟨b, off, len, cap, arr, e', fr, rfl, h1, hb⟩
    · cases h3
theorem cells_at {w : World} {b off m : Nat} {l : List Value} {arr : Array Value} {e' : TypeId} {fr : Nat × Nat} (h : w.cells? base ⟨b, off, none⟩ m = some l) (hb : w.heap[b]? = some (.cells arr e' fr)) : l.length = m ∧ ∀ (q : Nat) u, l[q]? = some u → arr[off + q]? = some u := by
  unfold World.cells? at h
  split at h
  · refine ⟨by have := mapM_some_length h; simpa using this, fun q u hq => ?_⟩
    have hlt : q < m := by have := mapM_some_length h; have := (List.getElem?_eq_some_iff.1 hq).1; simp at *; omega
    have := mapM_some_get h q q (by simp [hlt])
    rw [hq] at this
    have e1 : (Addr.add ⟨b, off, none⟩ q) = ⟨b, off + q, none⟩ := by unfold Addr.add; split <;> simp_all
    rw [e1] at this
    simpa [World.cell?, hb] using this
  · cases h

/-- A slice of elements of which each is of a known kind. -/
theorem roArg_of {H : Type} {enc : TypeId × Value → H} {spare : Nat → Bool} {held : Bool} {d : DataW H} {p : List MemPlace} {X : Type} (x0 : X) (F : X → List V) {sz : Nat} (hd : P.underlying t = some (.slice e)) (hsz : P.cellsOf e = sz)
    (each : ∀ a y m, (W.cells? 0 a sz).bind (DataW.trod enc P W 0 spare held m e) = some y → ∃ x l, W.cells? 0 a sz = some l ∧ czl emptyR (F x) = some l)
    (hv : Value.okWide P W r base t v) (h : DataW.Trod enc P W 0 spare held t v d p) : ∃ (n : Nat) (A : Nat → X), n ≤ maxLen ∧ Nonempty (RoArg W v n (fun j => F (A j)) sz) := by
  obtain ⟨fuel, hf⟩ := h
  rcases slice_has hd hv with rfl | ⟨b, off, n, cap, arr, e', fr, rfl, hcap, hb⟩
  · exact ⟨0, fun _ => x0, Nat.zero_le _, ⟨⟨fun _ => rfl, .inl rfl⟩⟩⟩
  · rcases DataW.trod_slice hd hf with ⟨e1, _⟩ | ⟨a, len, cap2, elems, rest, n3, _, e1, _, _, hl, hm, hlen3, hel, _⟩
    · simp [Value.cells] at e1
    · simp [Value.cells] at e1
      obtain ⟨rfl, rfl, rfl⟩ := e1
      have hx : ∀ i, i < n → ∃ x l, W.cells? 0 (Addr.add ⟨b, off, none⟩ (i * sz)) sz = some l ∧ czl emptyR (F x) = some l := fun i hi => by
        have := hel i hi
        rw [show elems[i]? = some elems[i] from List.getElem?_eq_getElem (by omega), hsz] at this
        exact each _ _ _ this
      refine ⟨n, fun i => if hi : i < n then Classical.choose (hx i hi) else x0, by omega, ⟨⟨fun q => by simp at q, .inr ⟨b, off, cap, arr, e', fr, rfl, hcap, hb, fun j hj => ?_⟩⟩⟩⟩
      simp only [dif_pos hj]
      obtain ⟨l, h1, h2⟩ := Classical.choose_spec (hx j hj)
      have e1 : (Addr.add ⟨b, off, none⟩ (j * sz)) = ⟨b, off + j * sz, none⟩ := by unfold Addr.add; split <;> simp_all
      rw [e1] at h1
      obtain ⟨h3, h4⟩ := cells_at h1 hb
      exact ⟨l, h2, h3, h4⟩
theorem RoArg.list {w : World} {X : Type} {F : X → List V} {A : Nat → X} {n sz : Nat} (d : X) (h : RoArg w v n (fun j => F (A j)) sz) : ∃ l : List X, l.length = n ∧ Nonempty (RoArg w v l.length (fun j => F (l.getD j d)) sz) := by
  refine ⟨(List.range n).map A, by simp, ⟨⟨fun e => by simpa using h.nil e, ?_⟩⟩⟩
  rcases h.at_ with e | ⟨b, off, cap, arr, e', fr, h1, h2, h3, h4⟩
  · exact .inl e
  · refine .inr ⟨b, off, cap, arr, e', fr, by simpa using h1, by simpa using h2, h3, fun j hj => ?_⟩
    have hj : j < n := by simpa using hj
    obtain ⟨l', g1, g2, g3⟩ := h4 j hj
    exact ⟨l', by simpa [hj] using g1, g2, g3⟩
end
end Sy
end Go.Proofs.Ytmgcpfljhcahoaa
