/- StoreNil, by the abstract evaluator. Tokens: 0 the time, 1 to 6 the entry's fields. -/
import Derived.Test.YtlmclpcecjhbpaaGreatLaw14K
import Derived.Test.YtlmclpcecjhbpaaGreatLight14
import Derived.Test.YtlmclpcecjhbpaaGreatAeFacts3
import Derived.Lib.SmallJoins
namespace Go.Proofs.YtlmclpcecjhbpaaGreat
open Go.RowKit Go.ChangeShapes Go.WideShapes Go.Deep

def entryArg : Value := .agg #[.float .f64 1, .float .f64 2, .float .f64 3, .float .f64 4, .float .f64 5, .float .f64 6]
def factL (b : Bool) : List Ae.CallFact := [⟨11, [], .bool true⟩, ⟨15, [entryArg], .bool b⟩]
theorem nil_t : Ae.good Tryz.prog (Ae.atFacts [⟨.u64, none, none⟩] [] (factL true) []) 1000000 4 [entryArg, .float .f64 0] = true := by kernel_rfl
theorem nil_f : Ae.good Tryz.prog (Ae.atFacts [⟨.u64, none, none⟩] [] (factL false) []) 1000000 4 [entryArg, .float .f64 0] = true := by kernel_rfl

theorem cell_agree {w w' : World} (hB : ∀ k, k < w.heap.size → w'.heap[k]? = w.heap[k]?) {a : Addr} {v : Value} (h : w.cell? a = some v) : w'.cell? a = some v := by
  by_cases hlt : a.block < w.heap.size
  · unfold World.cell? at h ⊢
    rw [hB _ hlt]
    exact h
  · unfold World.cell? at h
    rw [Array.getElem?_eq_none (by omega)] at h
    cases h

set_option maxRecDepth 100000 in
/-- An entry, opened: whether it is light is the same wherever it can be read. -/
theorem entry_light {H : Type} {enc : TypeId × Value → H} {W : World} {base : Nat} {spare : Nat → Bool} {held : Bool} {r : Reach} {b0 : Nat} {v : Value} {d : DataW H} {p : List MemPlace} (hv : Value.okWide Tryz.prog W r b0 40 v) (h : DataW.Trod enc Tryz.prog W base spare held 40 v d p) :
    ∃ x0 x1 x2 x3 x4 x5 b, v = .agg #[x0, x1, x2, x3, x4, x5] ∧ (∀ z ∈ [x0, x1, x2, x3, x4, x5], z.oneCell' = true) ∧
      ∀ w', W.heap.size ≤ w'.heap.size → (∀ k, k < W.heap.size → w'.heap[k]? = W.heap[k]?) → Calls Tryz.prog 15 #[.agg #[x0, x1, x2, x3, x4, x5]] w' fun e w'' => e = .returned (.bool b) ∧ Below w'.heap.size w' w'' := by
  obtain ⟨cs, rfl, hsz⟩ := okWide_struct Tryz.underlying40 hv
  have hC : Tryz.prog.cellsOf 40 = 6 := by kernel_rfl
  obtain ⟨x0, x1, x2, x3, x4, x5, rfl⟩ : ∃ c0 c1 c2 c3 c4 c5, cs = #[c0, c1, c2, c3, c4, c5] := by
    obtain ⟨l⟩ := cs
    have hl : l.length = 6 := hsz.trans hC
    match l, hl with
    | [c0, c1, c2, c3, c4, c5], _ => exact ⟨c0, c1, c2, c3, c4, c5, rfl⟩
  obtain ⟨fuel, hf⟩ := h
  obtain ⟨xs, n, _, _, _, hlen, hfs⟩ := DataW.trod_struct Tryz.underlying40 hf
  have c9 : Tryz.prog.cellsOf 9 = 1 := by kernel_rfl
  have hx : ∃ y0 y1 y2 y3 y4 y5, xs = [y0, y1, y2, y3, y4, y5] := by
    match xs, hlen with
    | [y0, y1, y2, y3, y4, y5], _ => exact ⟨y0, y1, y2, y3, y4, y5, rfl⟩
  obtain ⟨y0, y1, y2, y3, y4, y5, rfl⟩ := hx
  have k0 : DataW.trod enc Tryz.prog W base spare held n 9 [x0] = some y0 := by
    have := hfs 0 _ rfl
    simpa [show Tryz.prog.cellsOf 9 = 1 from by kernel_rfl, Value.cells] using this
  have k1 : DataW.trod enc Tryz.prog W base spare held n 36 [x1] = some y1 := by
    have := hfs 1 _ rfl
    simpa [show Tryz.prog.cellsOf 36 = 1 from by kernel_rfl, Value.cells] using this
  have k2 : DataW.trod enc Tryz.prog W base spare held n 37 [x2] = some y2 := by
    have := hfs 2 _ rfl
    simpa [show Tryz.prog.cellsOf 37 = 1 from by kernel_rfl, Value.cells] using this
  have k3 : DataW.trod enc Tryz.prog W base spare held n 38 [x3] = some y3 := by
    have := hfs 3 _ rfl
    simpa [show Tryz.prog.cellsOf 38 = 1 from by kernel_rfl, Value.cells] using this
  have k4 : DataW.trod enc Tryz.prog W base spare held n 30 [x4] = some y4 := by
    have := hfs 4 _ rfl
    simpa [show Tryz.prog.cellsOf 30 = 1 from by kernel_rfl, Value.cells] using this
  have k5 : DataW.trod enc Tryz.prog W base spare held n 30 [x5] = some y5 := by
    have := hfs 5 _ rfl
    simpa [show Tryz.prog.cellsOf 30 = 1 from by kernel_rfl, Value.cells] using this
  obtain ⟨key, e0, _, hk⟩ := DataW.trod_string Tryz.underlying9 k0
  obtain ⟨n3, e3, _, _⟩ := DataW.trod_int Tryz.underlying38 k3
  obtain ⟨n4, e4, _, _⟩ := DataW.trod_int Tryz.underlying30 k4
  obtain ⟨n5, e5, _, _⟩ := DataW.trod_int Tryz.underlying30 k5
  have hv1 : ∃ p1 m1 c1, x1 = .slice p1 m1 c1 ∧ m1 ≤ maxLen := by
    rcases DataW.trod_slice Tryz.underlying36 k1 with ⟨e1, _⟩ | ⟨a, len, cap, _, _, _, _, e1, _, _, h1, h2, _⟩
    · simp at e1; exact ⟨_, _, _, e1, Nat.zero_le _⟩
    · simp at e1; exact ⟨_, _, _, e1, by omega⟩
  obtain ⟨p1, m1, c1, rfl, hm1⟩ := hv1
  simp at e0 e3 e4 e5
  subst e0 e3 e4 e5
  rcases open_strings Tryz.underlying37 Tryz.underlying9 c9 k2 with ⟨e2, _⟩ | ⟨a, len, cap, ss, e2, _, hl, hm, hz, _, hcell, hsz'⟩
  · simp at e2
    subst e2
    refine ⟨_, _, _, _, _, _, lightB key.size m1 0 [], rfl, ?_, fun w' _ _ => light_none key p1 m1 c1 n3 n4 n5 w' hk hm1⟩
    intro z hz
    simp only [List.mem_cons, List.not_mem_nil, or_false] at hz
    rcases hz with rfl | rfl | rfl | rfl | rfl | rfl <;> rfl
  · simp at e2
    subst e2
    have hlen' : len ≤ ss.length := by rw [hz]; split <;> omega
    refine ⟨_, _, _, _, _, _, lightB key.size m1 len ss, rfl, ?_, fun w' _ hag => light_some key p1 m1 c1 a len cap ss n3 n4 n5 w' hlen' (by omega) (fun i hi => cell_agree hag (hcell i hi)) hsz' hk hm1⟩
    intro z hz
    simp only [List.mem_cons, List.not_mem_nil, or_false] at hz
    rcases hz with rfl | rfl | rfl | rfl | rfl | rfl <;> rfl

theorem lStoreNil (x0 x1 x2 x3 x4 x5 : Value) (b : Bool) (t : Int) (w : World) (hone : ∀ z ∈ [x0, x1, x2, x3, x4, x5], z.oneCell' = true)
    (hl : ∀ w', w.heap.size ≤ w'.heap.size → (∀ k, k < w.heap.size → w'.heap[k]? = w.heap[k]?) → Calls Tryz.prog 15 #[.agg #[x0, x1, x2, x3, x4, x5]] w' fun e w'' => e = .returned (.bool b) ∧ Below w'.heap.size w' w'') :
    Calls Tryz.prog 4 #[.agg #[x0, x1, x2, x3, x4, x5], .int .u64 t] w fun e w' => e = .returned (.bool true) ∧ Below w.heap.size w w' := by
  have one : ∀ v ∈ [Value.int .u64 t, x0, x1, x2, x3, x4, x5], v.oneCell' = true := by
    intro v hv
    rcases List.mem_cons.1 hv with rfl | hv
    · rfl
    · exact hone v hv
  have ce : Ae.cz ⟨fun _ => none, fun _ => 0, Ae.sig [.int .u64 t, x0, x1, x2, x3, x4, x5]⟩ entryArg = some (.agg #[x0, x1, x2, x3, x4, x5]) := by simp [entryArg, Ae.cz, Ae.cza, Ae.czl, Ae.sig]
  have cs : Ae.czl ⟨fun _ => none, fun _ => 0, Ae.sig [.int .u64 t, x0, x1, x2, x3, x4, x5]⟩ [entryArg, .float .f64 0] = some [.agg #[x0, x1, x2, x3, x4, x5], .int .u64 t] := by
    simp only [Ae.czl, ce]
    simp [Ae.cz, Ae.sig]
  have ls : Ae.LensOk [] [.int .u64 t, x0, x1, x2, x3, x4, x5] := by intro i j h; cases h
  have rs : Ae.RngOk [⟨.u64, none, none⟩] [.int .u64 t, x0, x1, x2, x3, x4, x5] := ⟨⟨t, rfl, fun l hl => (by cases hl), fun l hl => (by cases hl)⟩, trivial⟩
  have fk : ∀ c ∈ factL b, Ae.CallOkAt Tryz.prog (Ae.sig [.int .u64 t, x0, x1, x2, x3, x4, x5]) w.heap.size (fun k => w.heap[k]?) c := by
    intro c hc
    simp only [factL, List.mem_cons, List.not_mem_nil, or_false] at hc
    rcases hc with rfl | rfl
    · exact (known_ok _).at _ _
    · exact ⟨[.agg #[x0, x1, x2, x3, x4, x5]], .bool b, by simp only [Ae.czl]; rw [show Ae.cz (Ae.ren0 _) entryArg = some (.agg #[x0, x1, x2, x3, x4, x5]) from ce], by simp [Ae.cz], ⟨_, Tryz.func15, rfl⟩, fun w' h1 h2 => hl w' h1 h2⟩
  cases b with
  | true => exact Ae.good_mem noGor mixes nil_t rs ls w fk (by simp) one cs
  | false => exact Ae.good_mem noGor mixes nil_f rs ls w fk (by simp) one cs
end Go.Proofs.YtlmclpcecjhbpaaGreat
