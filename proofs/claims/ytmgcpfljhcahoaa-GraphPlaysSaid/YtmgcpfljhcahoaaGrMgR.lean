/- A graph beside the reference's edges; what the law's edges computes. -/
import Derived.Test.YtmgcpfljhcahoaaK3GraphPlays
import Derived.Test.YtmgcpfljhcahoaaGrNodesR
import Derived.Test.YtmgcpfljhcahoaaGrInsR
namespace Go.Proofs.Ytmgcpfljhcahoaa
open Go Go.RowKit Sy Tb Gr
set_option maxRecDepth 100000
set_option maxHeartbeats 4000000

/-- A graph beside the reference's. -/
structure MG (N M : Int) (E : List Ed) (sr : Int) (g : GG) : Prop where
  eN : g.N = N
  eE : g.E = M
  gu : GU g
  pu : PU g.ns
  rel : RelE g.ns E
  lk : g.lk = E.length
  srb : g.sr ≤ sr
  eM : (E.length : Int) ≤ M
section
variable {N M : Int} {E : List Ed} {s : Int} {g : GG}
theorem MG.len (h : MG N M E s g) : g.ns.length ≤ 2 * E.length := by
  rw [h.rel.len h.pu]
  exact nds_len E
theorem MG.gw (h : MG N M E s g) (hE : E.length ≤ 4000) (hs : s < 1000000000) : GW g := by
  have h1 := h.len
  have h2 := h.lk
  have h3 := h.srb
  exact ⟨h.gu, h.pu, by omega, by omega, by omega⟩
theorem MG.addR (h : MG N M E s g) (hE : E.length ≤ 4000) (p c : Bs) : Proofs.Ytmgcpfljhcahoaa.addR g.N g.E g.lk g.ns p c = rAddR N M E p c := by
  rw [h.eN, h.eE]
  exact (add_eq h.rel h.pu h.lk h.eM (by omega) p c).1
theorem rAddE_len (N M : Int) (E : List Ed) (p c : Bs) : (rAddE N M E p c).length ≤ E.length + 1 := by
  unfold rAddE
  split
  · rw [len_insE]; exact Nat.le_refl _
  · exact Nat.le_succ _
theorem MG.add (h : MG N M E s g) (hE : E.length ≤ 4000) {p c : Bs} {adr : Nat → Nat} {M1 : Nat → Option ND} {M2 : RowsM} {ns : List NS} {m : Nat} {C : Nat → Int} {sr : Int}
    (h1 : SameE (nsA g.N g.E g.lk g.ns p c) ns) (h2 : sr ≤ g.sr + 1) (h3 : GU ⟨g.N, g.E, g.seed, adr, M1, M2, ns, m, C, lkA g.N g.E g.lk g.ns p c, sr⟩) :
    MG N M (rAddE N M E p c) (s + 1) ⟨g.N, g.E, g.seed, adr, M1, M2, ns, m, C, lkA g.N g.E g.lk g.ns p c, sr⟩ := by
  have hs := h.srb
  have hN := h.eN
  have hM := h.eE
  subst hN hM
  obtain ⟨_, k2, k3, k4, k5⟩ := add_eq h.rel h.pu h.lk h.eM (by omega) p c
  exact ⟨rfl, rfl, h3, k3.same h1, k2.same k3.dk h1, k4, by show sr ≤ s + 1; omega, k5⟩
theorem MG.reach (h : MG N M E s g) (a b : Bs) (most : Int) : reachR g.ns a b most = rReach E a b most := reach_eq h.rel h.pu a b most
theorem MG.mark (h : MG N M E s g) {M1 : Nat → Option ND} {ns : List NS} {sr : Int} (h1 : SameE g.ns ns) (h2 : sr ≤ g.sr + 1) (h3 : GU { g with M1 := M1, ns := ns, sr := sr }) : MG N M E (s + 1) { g with M1 := M1, ns := ns, sr := sr } := by
  have hs := h.srb
  exact ⟨h.eN, h.eE, h3, h.pu.same h1, h.rel.same h.pu.dk h1, h.lk, by show sr ≤ s + 1; omega, h.eM⟩
theorem MG.zero {seed : Int} (hN : 1 ≤ N) (hM : 0 ≤ M) (hs : 0 ≤ seed ∧ seed < 18446744073709551616) : MG N M [] 0 ⟨N, M, seed, fun _ => 0, m1e, m2e, [], 8, fun _ => 0, 0, 0⟩ :=
  ⟨rfl, rfl, GU.new hN hs, Gr.PU.new, RelE.zero, rfl, Int.le_refl 0, hM⟩
end
end Go.Proofs.Ytmgcpfljhcahoaa
