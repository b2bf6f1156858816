/- A graph beside the reference's edges; what the law's edges computes. -/
import Derived.Test.YtmgcpfljhcahoaaGrNew
import Derived.Test.YtmgcpfljhcahoaaGrNodes
import Derived.Test.YtmgcpfljhcahoaaGrIns
namespace Go.Proofs.Ytmgcpfljhcahoaa
open Go Go.RowKit Sy Tb Gr
set_option maxRecDepth 100000
set_option maxHeartbeats 4000000

/-- A graph beside the reference's. -/
structure MG (N M : Int) (E : List Ed) (sr : Int) (g : GG) : Prop where
  eN : g.N = N
  eE : g.E = M
  gu : GU g
  pu : PU g.ns
  rel : RelE g.ns E
  lk : g.lk = E.length
  srb : g.sr ≤ sr
  eM : (E.length : Int) ≤ M
section
variable {N M : Int} {E : List Ed} {s : Int} {g : GG}
theorem MG.len (h : MG N M E s g) : g.ns.length ≤ 2 * E.length := by
  rw [h.rel.len h.pu]
  exact nds_len E
theorem MG.gw (h : MG N M E s g) (hE : E.length ≤ 4000) (hs : s < 1000000000) : GW g := by
  have h1 := h.len
  have h2 := h.lk
  have h3 := h.srb
  exact ⟨h.gu, h.pu, by omega, by omega, by omega⟩
theorem MG.addR (h : MG N M E s g) (hE : E.length ≤ 4000) (p c : Bs) : Proofs.Ytmgcpfljhcahoaa.addR g.N g.E g.lk g.ns p c = rAddR N M E p c := by
  rw [h.eN, h.eE]
  exact (add_eq h.rel h.pu h.lk h.eM (by omega) p c).1
theorem rAddE_len (N M : Int) (E : List Ed) (p c : Bs) : (rAddE N M E p c).length ≤ E.length + 1 := by
  unfold rAddE
  split
  · rw [len_insE]; exact Nat.le_refl _
  · exact Nat.le_succ _
theorem MG.add (h : MG N M E s g) (hE : E.length ≤ 4000) {p c : Bs} {adr : Nat → Nat} {M1 : Nat → Option ND} {M2 : RowsM} {ns : List NS} {m : Nat} {C : Nat → Int} {sr : Int}
    (h1 : SameE (nsA g.N g.E g.lk g.ns p c) ns) (h2 : sr ≤ g.sr + 1) (h3 : GU ⟨g.N, g.E, g.seed, adr, M1, M2, ns, m, C, lkA g.N g.E g.lk g.ns p c, sr⟩) :
    MG N M (rAddE N M E p c) (s + 1) ⟨g.N, g.E, g.seed, adr, M1, M2, ns, m, C, lkA g.N g.E g.lk g.ns p c, sr⟩ := by
  have hs := h.srb
  have hN := h.eN
  have hM := h.eE
  subst hN hM
  obtain ⟨_, k2, k3, k4, k5⟩ := add_eq h.rel h.pu h.lk h.eM (by omega) p c
  exact ⟨rfl, rfl, h3, k3.same h1, k2.same k3.dk h1, k4, by show sr ≤ s + 1; omega, k5⟩
theorem MG.reach (h : MG N M E s g) (a b : Bs) (most : Int) : reachR g.ns a b most = rReach E a b most := reach_eq h.rel h.pu a b most
theorem MG.mark (h : MG N M E s g) {M1 : Nat → Option ND} {ns : List NS} {sr : Int} (h1 : SameE g.ns ns) (h2 : sr ≤ g.sr + 1) (h3 : GU { g with M1 := M1, ns := ns, sr := sr }) : MG N M E (s + 1) { g with M1 := M1, ns := ns, sr := sr } := by
  have hs := h.srb
  exact ⟨h.eN, h.eE, h3, h.pu.same h1, h.rel.same h.pu.dk h1, h.lk, by show sr ≤ s + 1; omega, h.eM⟩
theorem MG.zero {seed : Int} (hN : 1 ≤ N) (hM : 0 ≤ M) (hs : 0 ≤ seed ∧ seed < 18446744073709551616) : MG N M [] 0 ⟨N, M, seed, fun _ => 0, m1e, m2e, [], 8, fun _ => 0, 0, 0⟩ :=
  ⟨rfl, rfl, GU.new hN hs, Gr.PU.new, RelE.zero, rfl, Int.le_refl 0, hM⟩
end
def edO (c : Obj) (l : List Ed) (e : TypeId) : SObj := .ro c l.length (fun j => [.str (l.getD j e00).1, .str (l.getD j e00).2]) e 2
theorem edO_ren (θ : Nat → Nat) (c : Obj) (l : List Ed) (e : TypeId) : (edO c l e).ren θ = edO c l e := rfl
def fewE (l : List Ed) : Prop := l.length ≤ 60 ∧ ∀ j, j < l.length → (l.getD j e00).1.size ≤ 20 ∧ (l.getD j e00).2.size ≤ 20
def SEdges : LSpec where
  X := Obj × List Ed × TypeId
  k := 1
  pre _ := True
  args x θ := [.sl (θ 0) 0 2 x.2.1.length false]
  objs x _ := [edO x.1 x.2.1 x.2.2]
  out x _ R := ∀ b, (b = true → fewE x.2.1) → R (.sb b) [some (edO x.1 x.2.1 x.2.2)]
theorem SEdges_nt : SEdges.Nt := ⟨fun _ _ => rfl, fun _ _ => rfl, fun _ _ _ h => h⟩
theorem SEdges_ok : SEdges.Ok Try.prog 13 := by
  refine LSpec.of_body noGo mixed conOf_nil Try.func13 rfl (by kernel_rfl) fun ⟨c, l, e⟩ R _ hR => ?_
  have hR0 : R (.sb false) [some (edO c l e)] := hR false (fun g => Bool.noConfusion g)
  have hR1 : (∀ j, j < l.length → j < 61 → (l.getD j e00).1.size ≤ 20 ∧ (l.getD j e00).2.size ≤ 20) → R (.sb (decide ((l.length : Int) ≤ 60))) [some (edO c l e)] := fun h => hR _ fun g => by
    have g : l.length ≤ 60 := by have := of_decide_eq_true g; omega
    exact ⟨g, fun j hj => h j hj (by have : j < l.length := hj; omega)⟩
  (conv => whnf)
  refine .inl ⟨Nat, fun i => [(0, .sl 0 0 2 l.length false), (3, i64 i)], fun _ => [some (edO c l e)], fun i => 61 - i, fun i => i ≤ 61 ∧ ∀ j, j < i → (l.getD j e00).1.size ≤ 20 ∧ (l.getD j e00).2.size ≤ 20, 1, ⟨0, [], ⟨Nat.zero_le _, fun j hj => absurd hj (Nat.not_lt_zero j)⟩, ?_⟩, fun _ => rfl, fun i ⟨hi, hb⟩ => ?_⟩
  · (repeat' (first | exact True.intro | rfl | assumption | exact mc_ok rfl | exact mr_ok | exact fun _ => rfl | (refine And.intro ?_ ?_) | (intro _ _; rfl) | ((conv => whnf); (first | exact True.intro | (refine And.intro ?_ ?_)))))
  have hi : i ≤ 61 := hi
  have ei := zero_add_toNat i
  (conv => whnf)
  constructor
  · intro h
    have h : i < l.length := by have : (i : Int) < (l.length : Int) := of_decide_eq_true h; omega
    (conv => whnf)
    constructor
    · intro h2
      have h2 : i < 61 := by have : (i : Int) < 61 := of_decide_eq_true h2; omega
      (conv => whnf)
      refine ⟨by show (0 : Int) ≤ (i : Int); omega, by show (i : Int) < (l.length : Int); omega, ?_⟩
      (conv => whnf)
      refine ⟨by rw [ei]; exact h, ?_⟩
      (conv => whnf)
      constructor
      · intro h3
        have h3 : ¬ 20 < ((l.getD (0 + (i : Int).toNat) e00).1.size : Int) := of_decide_eq_false h3
        rw [ei] at h3
        (conv => whnf)
        refine ⟨by show (0 : Int) ≤ (i : Int); omega, by show (i : Int) < (l.length : Int); omega, ?_⟩
        (conv => whnf)
        refine ⟨by rw [ei]; exact h, ?_⟩
        (conv => whnf)
        constructor
        · intro h4
          (conv => whnf)
          refine ⟨[], _, _, hR0, ?_⟩
          (repeat' (first | exact True.intro | rfl | assumption | exact mc_ok rfl | exact mr_ok | exact fun _ => rfl | (refine And.intro ?_ ?_) | (intro _ _; rfl) | ((conv => whnf); (first | exact True.intro | (refine And.intro ?_ ?_)))))
        · intro h4
          have h4 : ¬ 20 < ((l.getD (0 + (i : Int).toNat) e00).2.size : Int) := of_decide_eq_false h4
          rw [ei] at h4
          (conv => whnf)
          refine ⟨i + 1, [], by show 61 - (i + 1) < 61 - i; omega, ⟨by show i + 1 ≤ 61; omega, fun j hj => ?_⟩, ?_⟩
          · rcases Nat.lt_or_ge j i with q | q
            · exact hb j q
            · obtain rfl : j = i := by have : j < i + 1 := hj; omega
              exact ⟨by omega, by omega⟩
          (repeat' (first | exact True.intro | rfl | assumption | exact mc_ok rfl | exact mr_ok | exact fun _ => rfl | (refine And.intro ?_ ?_) | (intro _ _; rfl) | ((conv => whnf); (first | exact True.intro | (refine And.intro ?_ ?_)))))
          exact (wrap_id (by omega) (by omega)).symm
      · intro h3
        (conv => whnf)
        (repeat' (first | (refine And.intro (fun hh => ?_) (fun hh => ?_) <;> first | (exfalso; simp [*] at hh; done) | (exfalso; simp_all; done) | (conv => whnf)) | fail))
        refine ⟨[], _, _, hR0, ?_⟩
        (repeat' (first | exact True.intro | rfl | assumption | exact mc_ok rfl | exact mr_ok | exact fun _ => rfl | (refine And.intro ?_ ?_) | (intro _ _; rfl) | ((conv => whnf); (first | exact True.intro | (refine And.intro ?_ ?_)))))
    · intro h2
      have h2 : ¬ i < 61 := by have : ¬ (i : Int) < 61 := of_decide_eq_false h2; omega
      have hF := hR1 fun j _ hj => hb j (by have : i = 61 := by omega
                                            omega)
      (conv => whnf)
      refine ⟨[], _, _, hF, ?_⟩
      (repeat' (first | exact True.intro | rfl | assumption | exact mc_ok rfl | exact mr_ok | exact fun _ => rfl | (refine And.intro ?_ ?_) | (intro _ _; rfl) | ((conv => whnf); (first | exact True.intro | (refine And.intro ?_ ?_)))))
  · intro h
    have h : ¬ i < l.length := by have : ¬ (i : Int) < (l.length : Int) := of_decide_eq_false h; omega
    have hF := hR1 fun j hj _ => hb j (by omega)
    (conv => whnf)
    (repeat' (first | (refine And.intro (fun hh => ?_) (fun hh => ?_) <;> first | (exfalso; simp [*] at hh; done) | (exfalso; simp_all; done) | (conv => whnf)) | fail))
    refine ⟨[], _, _, hF, ?_⟩
    (repeat' (first | exact True.intro | rfl | assumption | exact mc_ok rfl | exact mr_ok | exact fun _ => rfl | (refine And.intro ?_ ?_) | (intro _ _; rfl) | ((conv => whnf); (first | exact True.intro | (refine And.intro ?_ ?_)))))

end Go.Proofs.Ytmgcpfljhcahoaa
