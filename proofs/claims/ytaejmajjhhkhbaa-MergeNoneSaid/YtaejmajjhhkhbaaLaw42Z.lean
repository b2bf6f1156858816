/- MergeNone, by the abstract evaluator. Tokens: 0 to 6 the cells of the call. -/
import Derived.Test.YtaejmajjhhkhbaaLaw42K
import Derived.Test.YtaejmajjhhkhbaaLight42
import Derived.Test.YtaejmajjhhkhbaaAeFacts3
import Derived.Lib.SmallJoins
namespace Go.Proofs.Ytaejmajjhhkhbaa
open Go.RowKit Go.ChangeShapes Go.WideShapes Go.Deep

def actArg : Value := .agg #[.float .f64 0, .float .f64 1, .float .f64 2, .float .f64 3, .float .f64 4, .float .f64 5, .float .f64 6]
def factL (b : Bool) : List Ae.CallFact := [⟨10, [], .bool true⟩, ⟨18, [actArg], .bool b⟩]
theorem none_t : Ae.good Try.prog (Ae.atFacts [] [] (factL true) []) 1000000 7 [actArg] = true := by kernel_rfl
theorem none_f : Ae.good Try.prog (Ae.atFacts [] [] (factL false) []) 1000000 7 [actArg] = true := by kernel_rfl

theorem cell_agree {w w' : World} (hB : ∀ k, k < w.heap.size → w'.heap[k]? = w.heap[k]?) {a : Addr} {v : Value} (h : w.cell? a = some v) : w'.cell? a = some v := by
  by_cases hlt : a.block < w.heap.size
  · unfold World.cell? at h ⊢
    rw [hB _ hlt]
    exact h
  · unfold World.cell? at h
    rw [Array.getElem?_eq_none (by omega)] at h
    cases h

set_option maxRecDepth 100000 in
/-- The names of postings that can be read. -/
theorem names_of {H : Type} {enc : TypeId × Value → H} {W : World} {base : Nat} {spare : Nat → Bool} {held : Bool} {n : Nat} {a : Addr} {y : DataW H × List MemPlace}
    (h : (W.cells? base a (Try.prog.cellsOf 34)).bind (DataW.trod enc Try.prog W base spare held n 34) = some y) : ∃ s : ByteArray, W.cell? ⟨a.block, a.off + 1, none⟩ = some (.string s) ∧ s.size ≤ maxLen := by
  obtain ⟨cs, hcs, htr⟩ := Option.bind_eq_some_iff.1 h
  rw [show Try.prog.cellsOf 34 = 4 from by kernel_rfl] at hcs
  obtain ⟨xs, m, _, _, hl, hlen, hfs⟩ := DataW.trod_struct Try.underlying34 htr
  have hl4 : cs.length = 4 := hl.trans (by kernel_rfl)
  match cs, hl4 with
  | [c0, c1, c2, c3], _ =>
    match xs, hlen with
    | [y0, y1, y2], _ =>
      have k1 : DataW.trod enc Try.prog W base spare held m 9 [c1] = some y1 := by
        have := hfs 1 _ rfl
        simpa [show Try.prog.cellsOf 9 = 1 from by kernel_rfl] using this
      obtain ⟨s, e1, _, hs⟩ := DataW.trod_string Try.underlying9 k1
      simp at e1
      subst e1
      refine ⟨s, ?_, hs⟩
      unfold World.cells? at hcs
      split at hcs
      · have := mapM_some_get hcs 1 1 (by simp)
        simpa [Addr.add] using this
      · cases hcs

set_option maxRecDepth 100000 in
/-- A call, opened: whether it is light is the same wherever its lists can be read. -/
theorem act_light {H : Type} {enc : TypeId × Value → H} {W : World} {base : Nat} {spare : Nat → Bool} {held : Bool} {r : Reach} {b0 : Nat} {v : Value} {d : DataW H} {p : List MemPlace} (hv : Value.okWide Try.prog W r b0 47 v) (h : DataW.Trod enc Try.prog W base spare held 47 v d p) :
    ∃ x0 x1 x2 x3 x4 x5 x6 b, v = .agg #[x0, x1, x2, x3, x4, x5, x6] ∧ (∀ z ∈ [x0, x1, x2, x3, x4, x5, x6], z.oneCell' = true) ∧
      ∀ w', W.heap.size ≤ w'.heap.size → (∀ k, k < W.heap.size → w'.heap[k]? = W.heap[k]?) → Calls Try.prog 18 #[.agg #[x0, x1, x2, x3, x4, x5, x6]] w' fun e w'' => e = .returned (.bool b) ∧ Below w'.heap.size w' w'' := by
  obtain ⟨cs, rfl, hsz⟩ := okWide_struct Try.underlying47 hv
  have hC : Try.prog.cellsOf 47 = 7 := by kernel_rfl
  obtain ⟨x0, x1, x2, x3, x4, x5, x6, rfl⟩ : ∃ c0 c1 c2 c3 c4 c5 c6, cs = #[c0, c1, c2, c3, c4, c5, c6] := by
    obtain ⟨l⟩ := cs
    have hl : l.length = 7 := hsz.trans hC
    match l, hl with
    | [c0, c1, c2, c3, c4, c5, c6], _ => exact ⟨c0, c1, c2, c3, c4, c5, c6, rfl⟩
  obtain ⟨fuel, hf⟩ := h
  obtain ⟨xs, n, _, _, _, hlen, hfs⟩ := DataW.trod_struct Try.underlying47 hf
  have hx : ∃ y0 y1 y2 y3 y4 y5, xs = [y0, y1, y2, y3, y4, y5] := by
    match xs, hlen with
    | [y0, y1, y2, y3, y4, y5], _ => exact ⟨y0, y1, y2, y3, y4, y5, rfl⟩
  obtain ⟨y0, y1, y2, y3, y4, y5, rfl⟩ := hx
  have k0 : DataW.trod enc Try.prog W base spare held n 3 [x0] = some y0 := by
    have := hfs 0 _ rfl
    simpa [show Try.prog.cellsOf 3 = 1 from by kernel_rfl, Value.cells] using this
  have k1 : DataW.trod enc Try.prog W base spare held n 31 [x1] = some y1 := by
    have := hfs 1 _ rfl
    simpa [show Try.prog.cellsOf 31 = 1 from by kernel_rfl, Value.cells] using this
  have k2 : DataW.trod enc Try.prog W base spare held n 32 [x2] = some y2 := by
    have := hfs 2 _ rfl
    simpa [show Try.prog.cellsOf 32 = 1 from by kernel_rfl, Value.cells] using this
  have k3 : DataW.trod enc Try.prog W base spare held n 9 [x3] = some y3 := by
    have := hfs 3 _ rfl
    simpa [show Try.prog.cellsOf 9 = 1 from by kernel_rfl, Value.cells] using this
  have k4 : DataW.trod enc Try.prog W base spare held n 45 [x4] = some y4 := by
    have := hfs 4 _ rfl
    simpa [show Try.prog.cellsOf 45 = 1 from by kernel_rfl, Value.cells] using this
  have k5 : DataW.trod enc Try.prog W base spare held n 24 [x5, x6] = some y5 := by
    have := hfs 5 _ rfl
    simpa [show Try.prog.cellsOf 24 = 2 from by kernel_rfl, Value.cells] using this
  obtain ⟨zs, n2, _, _, _, hlen2, hfs2⟩ := DataW.trod_struct Try.underlying24 k5
  obtain ⟨z0, z1, rfl⟩ : ∃ z0 z1, zs = [z0, z1] := by
    match zs, hlen2 with
    | [z0, z1], _ => exact ⟨z0, z1, rfl⟩
  have q0 : DataW.trod enc Try.prog W base spare held n2 22 [x5] = some z0 := by
    have := hfs2 0 _ rfl
    simpa [show Try.prog.cellsOf 22 = 1 from by kernel_rfl] using this
  have q1 : DataW.trod enc Try.prog W base spare held n2 3 [x6] = some z1 := by
    have := hfs2 1 _ rfl
    simpa [show Try.prog.cellsOf 3 = 1 from by kernel_rfl] using this
  obtain ⟨m0, e0, _, _⟩ := DataW.trod_int Try.underlying3 k0
  obtain ⟨m2, e2, _, _⟩ := DataW.trod_int Try.underlying32 k2
  obtain ⟨key, e3, _, hk⟩ := DataW.trod_string Try.underlying9 k3
  obtain ⟨m5, e5, _, _⟩ := DataW.trod_int Try.underlying22 q0
  obtain ⟨m6, e6, _, _⟩ := DataW.trod_int Try.underlying3 q1
  simp at e0 e2 e3 e5 e6
  subst e0 e2 e3 e5 e6
  have hv1 : ∃ (pl : Option Addr) (nl cl : Nat) (nm : Nat → ByteArray), x1 = .slice pl nl cl ∧ nl ≤ maxLen ∧ ∀ i, i < nl → ∃ a, pl = some a ∧ W.cell? ⟨(a.add (i * 4)).block, (a.add (i * 4)).off + 1, none⟩ = some (.string (nm i)) ∧ (nm i).size ≤ maxLen := by
    rcases DataW.trod_slice Try.underlying31 k1 with ⟨e1, _⟩ | ⟨a, len, cap, elems, rest, n3, _, e1, _, _, hl, hm, hlen3, hel, _⟩
    · simp at e1; exact ⟨_, _, _, fun _ => ByteArray.empty, e1, Nat.zero_le _, fun i hi => absurd hi (Nat.not_lt_zero i)⟩
    · simp at e1
      have each : ∀ i, i < len → ∃ s : ByteArray, W.cell? ⟨(a.add (i * 4)).block, (a.add (i * 4)).off + 1, none⟩ = some (.string s) ∧ s.size ≤ maxLen := fun i hi => by
        have := hel i hi
        rw [show elems[i]? = some elems[i] from List.getElem?_eq_getElem (by omega)] at this
        have h4 : i * Try.prog.cellsOf 34 = i * 4 := by rw [show Try.prog.cellsOf 34 = 4 from by kernel_rfl]
        rw [h4] at this
        exact names_of this
      obtain ⟨nm, hnm⟩ : ∃ nm : Nat → ByteArray, ∀ i, i < len → W.cell? ⟨(a.add (i * 4)).block, (a.add (i * 4)).off + 1, none⟩ = some (.string (nm i)) ∧ (nm i).size ≤ maxLen := by
        refine ⟨fun i => if hi : i < len then Classical.choose (each i hi) else ByteArray.empty, fun i hi => ?_⟩
        have := Classical.choose_spec (each i hi)
        simpa only [dif_pos hi] using this
      exact ⟨some a, len, cap, nm, e1, by omega, fun i hi => ⟨a, rfl, hnm i hi⟩⟩
  obtain ⟨pl, nl, cl, nm, rfl, hnl, hnm⟩ := hv1
  have hv4 : ∃ (pt : Option Addr) (nt ct : Nat) (tg : Nat → ByteArray), x4 = .slice pt nt ct ∧ nt ≤ maxLen ∧ ∀ i, i < nt → ∃ a, pt = some a ∧ W.cell? (a.add i) = some (.string (tg i)) ∧ (tg i).size ≤ maxLen := by
    rcases open_strings Try.underlying45 Try.underlying9 (by kernel_rfl) k4 with ⟨e4, _⟩ | ⟨a, len, cap, ss, e4, _, hl, hm, hz, _, hcell, hsz'⟩
    · simp at e4; exact ⟨_, _, _, fun _ => ByteArray.empty, e4, Nat.zero_le _, fun i hi => absurd hi (Nat.not_lt_zero i)⟩
    · simp at e4
      have hlen' : len ≤ ss.length := by rw [hz]; split <;> omega
      refine ⟨some a, len, cap, fun i => ss.getD i ByteArray.empty, e4, by omega, fun i hi => ⟨a, rfl, hcell i (by omega), hsz' _ ?_⟩⟩
      show ss.getD i ByteArray.empty ∈ ss
      rw [List.getD_eq_getElem?_getD, List.getElem?_eq_getElem (by omega)]
      simp
  obtain ⟨pt, nt, ct, tg, rfl, hnt, htg⟩ := hv4
  refine ⟨_, _, _, _, _, _, _, @decide (nl ≤ 20 ∧ nt ≤ 20 ∧ key.size ≤ 300 ∧ (∀ i, i < nl → (nm i).size ≤ 300) ∧ (∀ i, i < nt → (tg i).size ≤ 300)) (Classical.propDecidable _), rfl, ?_, fun w' _ hag => ?_⟩
  · intro z hz
    simp only [List.mem_cons, List.not_mem_nil, or_false] at hz
    rcases hz with rfl | rfl | rfl | rfl | rfl | rfl | rfl <;> rfl
  · refine light_any m0 m2 pl nl cl key pt nt ct m5 m6 nm tg _ w' hnl hnt hk (fun i hi => ?_) (fun i hi => ?_) (@decide_eq_true_iff _ (Classical.propDecidable _))
    · obtain ⟨a, h1, h2, h3⟩ := hnm i hi
      exact ⟨a, h1, cell_agree hag h2, h3⟩
    · obtain ⟨a, h1, h2, h3⟩ := htg i hi
      exact ⟨a, h1, cell_agree hag h2, h3⟩

theorem lMergeNone (x0 x1 x2 x3 x4 x5 x6 : Value) (b : Bool) (w : World) (hone : ∀ z ∈ [x0, x1, x2, x3, x4, x5, x6], z.oneCell' = true)
    (hl : ∀ w', w.heap.size ≤ w'.heap.size → (∀ k, k < w.heap.size → w'.heap[k]? = w.heap[k]?) → Calls Try.prog 18 #[.agg #[x0, x1, x2, x3, x4, x5, x6]] w' fun e w'' => e = .returned (.bool b) ∧ Below w'.heap.size w' w'') :
    Calls Try.prog 7 #[.agg #[x0, x1, x2, x3, x4, x5, x6]] w fun e w' => e = .returned (.bool true) ∧ Below w.heap.size w w' := by
  have ce : Ae.cz ⟨fun _ => none, fun _ => 0, Ae.sig [x0, x1, x2, x3, x4, x5, x6]⟩ actArg = some (.agg #[x0, x1, x2, x3, x4, x5, x6]) := by simp [actArg, Ae.cz, Ae.cza, Ae.czl, Ae.sig]
  have cs : Ae.czl ⟨fun _ => none, fun _ => 0, Ae.sig [x0, x1, x2, x3, x4, x5, x6]⟩ [actArg] = some [.agg #[x0, x1, x2, x3, x4, x5, x6]] := by simp only [Ae.czl, ce]
  have ls : Ae.LensOk [] [x0, x1, x2, x3, x4, x5, x6] := by intro i j h; cases h
  have fk : ∀ c ∈ factL b, Ae.CallOkAt Try.prog (Ae.sig [x0, x1, x2, x3, x4, x5, x6]) w.heap.size (fun k => w.heap[k]?) c := by
    intro c hc
    simp only [factL, List.mem_cons, List.not_mem_nil, or_false] at hc
    rcases hc with rfl | rfl
    · exact (known_ok _).at _ _
    · exact ⟨[.agg #[x0, x1, x2, x3, x4, x5, x6]], .bool b, by simp only [Ae.czl]; rw [show Ae.cz (Ae.ren0 _) actArg = some (.agg #[x0, x1, x2, x3, x4, x5, x6]) from ce], by simp [Ae.cz], ⟨_, Try.func18, rfl⟩, fun w' h1 h2 => hl w' h1 h2⟩
  cases b with
  | true => exact Ae.good_mem noGor mixes none_t (l := [x0, x1, x2, x3, x4, x5, x6]) trivial ls w fk (by simp) hone cs
  | false => exact Ae.good_mem noGor mixes none_f (l := [x0, x1, x2, x3, x4, x5, x6]) trivial ls w fk (by simp) hone cs
end Go.Proofs.Ytaejmajjhhkhbaa
