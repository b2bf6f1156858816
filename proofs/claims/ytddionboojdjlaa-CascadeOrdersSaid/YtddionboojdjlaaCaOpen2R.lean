/- CascadeOrders at the law's arguments. -/
import Derived.Test.YtddionboojdjlaaK14CascadeOrders
import Derived.Test.YtddionboojdjlaaCaOrdersR
namespace Go.Proofs.Ytddionboojdjlaa
set_option maxRecDepth 100000
open Go Go.RowKit Sy Tb Gr
theorem u8_wf {n : Int} (h : (Lit.int .u8 n).wf = true) : 0 ≤ n ∧ n < 256 := by
  simp [Lit.wf, IntKind.min, IntKind.max, IntKind.signed, IntKind.bits] at h
  omega
theorem lOrders (l : List Ed) (L : List Bs) (i k : Int) (hi : 0 ≤ i ∧ i < 256) (hk : 0 ≤ k ∧ k < 256) (W : World) (v v' : Value) (h : Nonempty (RoArg W v l.length (fun j => [.str (l.getD j e00).1, .str (l.getD j e00).2]) 2)) (h' : Nonempty (RoArg W v' L.length (fun j => [.str (L.getD j eS)]) 1)) :
    Calls Try.prog 3 #[v, v', .int .u8 i, .int .u8 k] W fun e w' => e = .returned (.bool true) ∧ Below W.heap.size W w' := by
  obtain ⟨h⟩ := h
  obtain ⟨h'⟩ := h'
  obtain ⟨p, c, hc, _, hz⟩ := h.fz (by decide) (ed_ok l)
  obtain ⟨p', c', hc', hle, hz'⟩ := h'.fz (by decide) (fun _ _ => ⟨rfl, rfl⟩)
  refine SOrdersL_top W (_, (p, c, l), (p', c', L), i, k) ⟨hz, ⟨hz', hle⟩, hi, hk⟩ rfl ⟨rfl, rfl⟩ [v, v', .int .u8 i, .int .u8 k] ?_
  show czl _ [V.zsl 0 p 2 l.length c, V.zsl 0 p' 1 L.length c', u8v i, u8v k] = some [v, v', .int .u8 i, .int .u8 k]
  simp only [czl, hc, hc']
  rfl
end Go.Proofs.Ytddionboojdjlaa
