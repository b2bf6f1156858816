/- GraphFull: the walk. -/
import Derived.Test.YtmgcpfljhcahoaaGrChain
import Derived.Test.YtmgcpfljhcahoaaLaw22K
import Derived.Test.YtmgcpfljhcahoaaSyTop
namespace Go.Proofs.Ytmgcpfljhcahoaa
open Go Go.RowKit Sy Tb Gr
set_option maxRecDepth 100000
set_option maxHeartbeats 4000000

theorem conFu : ConOk Try.prog (conOf [(11, trueT), (9, SNew.T), (19, SName.T), (18, SLAdd.T), (16, SLReach.T), (20, SLLen.T)]) :=
  conOf_cons (true_ok ⟨_, Try.func11, rfl⟩ known_any) (conOf_cons (LSpec.call SNew_nt SNew_ok) (conOf_cons (LSpec.call SName_nt SName_ok) (conOf_cons (LSpec.call SLAdd_nt SLAdd_ok) (conOf_cons (LSpec.call SLReach_nt SLReach_ok) (conOf_cons (LSpec.call SLLen_nt SLLen_ok) conOf_nil)))))
def SFull : LSpec where
  X := Int × Bool × Int
  k := 0
  pre x := 0 ≤ x.2.2 ∧ x.2.2 < 256
  args x _ := [i64 x.1, .sb x.2.1, .int .u8 x.2.2]
  objs _ _ := []
  out _ _ R := R (.sb true) []
/-- The maxima of a chain. -/
def fullOk (N E : Int) (last : Nat) : Prop := (N = 1000 ∧ E = last ∧ 1 ≤ last ∧ last ≤ 300) ∨ (E = 1000 ∧ N = (last : Int) + 1 ∧ last < 300)
/-- What the loop keeps. -/
structure FI (N E : Int) (last i : Nat) (g : GG) : Prop where
  eN : g.N = N
  eE : g.E = E
  gu : GU g
  ch : Chain g.ns (min i last)
  lk : g.lk = ((min i last : Nat) : Int)
  sr : g.sr ≤ i
theorem FI.gw {N E : Int} {last i : Nat} {g : GG} (h : FI N E last i g) (hl : last ≤ 300) (hi : i ≤ 301) : GW g := by
  have h1 := h.ch.le
  have h2 := h.lk
  have h3 := h.sr
  exact ⟨h.gu, h.ch.pu, by omega, by omega, by omega⟩
theorem SFull_top : SFull.Top Try.prog 5 := by
  refine LSpec.topC [8] noGo mixed conFu Try.func5 rfl (by kernel_rfl) fun ⟨most, nd, lk⟩ R ⟨hl0, hl1⟩ hR => ?_
  have hl0 : 0 ≤ lk := hl0
  have hl1 : lk < 256 := hl1
  have hR : R (.sb true) [] := hR
  (conv => whnf)
  constructor
  · intro h1
    have h1 : ¬ most < 1 := of_decide_eq_false h1
    (conv => whnf)
    constructor
    · intro h2
      (conv => whnf)
      refine ⟨[], _, _, hR, ?_⟩
      (repeat' (first | exact True.intro | rfl | assumption | exact mc_ok rfl | exact mr_ok | exact fun _ => rfl | (refine And.intro ?_ ?_) | (intro _ _; rfl) | ((conv => whnf); (first | exact True.intro | (refine And.intro ?_ ?_)))))
    · intro h2
      have h2 : ¬ 300 < most := of_decide_eq_false h2
      obtain ⟨n, rfl⟩ : ∃ n : Nat, most = n := ⟨most.toNat, by omega⟩
      (conv => whnf)
      refine ⟨(1000, (n : Int), 1), [], ⟨⟨by show (1 : Int) ≤ 1000; omega, by show (1000 : Int) ≤ 65536; omega⟩, by show (1 : Int) ≤ (n : Int); omega, by show (n : Int) ≤ 65536; omega⟩, rfl, by (repeat' (first | exact True.intro | rfl | assumption | exact mc_ok rfl | exact mr_ok | exact fun _ => rfl | (refine And.intro ?_ ?_) | (intro _ _; rfl) | ((conv => whnf); (first | exact True.intro | (refine And.intro ?_ ?_))))), by (repeat' (first | exact True.intro | rfl | assumption | exact mc_ok rfl | exact mr_ok | exact fun _ => rfl | (refine And.intro ?_ ?_) | (intro _ _; rfl) | ((conv => whnf); (first | exact True.intro | (refine And.intro ?_ ?_))))), ?_⟩
      (conv => whnf)
      refine ⟨Int × Int × Int × Nat, fun x => [(2, .int .u8 lk), (7, .ptr 0 0), (8, i64 0), (9, i64 x.2.2.2)], fun x => [some (grC 1 2 x.1 x.2.1 x.2.2.1 0 8 0 0), some (lsR 3 0 fun _ => 0), some (ceR 8 fun _ => 0), some (mcO 4 m1e), some (mrO m2e)],
        fun x => fullOk x.1 x.2.1 x.2.2.2 ∧ 0 ≤ x.2.2.1 ∧ x.2.2.1 < 18446744073709551616, 5, fun _ => rfl, ?_, fun ⟨N, E, seed, last⟩ ⟨hf, hs⟩ => ?_⟩
      · (conv => whnf)
        constructor
        · intro h3
          (conv => whnf)
          refine ⟨((n : Int), 1000, 2), [], ⟨⟨by show (1 : Int) ≤ (n : Int); omega, by show (n : Int) ≤ 65536; omega⟩, by show (1 : Int) ≤ 1000; omega, by show (1000 : Int) ≤ 65536; omega⟩, rfl, by (repeat' (first | exact True.intro | rfl | assumption | exact mc_ok rfl | exact mr_ok | exact fun _ => rfl | (refine And.intro ?_ ?_) | (intro _ _; rfl) | ((conv => whnf); (first | exact True.intro | (refine And.intro ?_ ?_))))), by (repeat' (first | exact True.intro | rfl | assumption | exact mc_ok rfl | exact mr_ok | exact fun _ => rfl | (refine And.intro ?_ ?_) | (intro _ _; rfl) | ((conv => whnf); (first | exact True.intro | (refine And.intro ?_ ?_))))), ?_⟩
          (conv => whnf)
          refine ⟨((n : Int), 1000, 2, n - 1), [some 5, some 6, some 7, some 8, some 9], ⟨.inr ⟨rfl, by show (n : Int) = ((n - 1 : Nat) : Int) + 1; omega, by show n - 1 < 300; omega⟩, by show (0 : Int) ≤ 2; omega, by show (2 : Int) < 18446744073709551616; omega⟩, ?_⟩
          (repeat' (first | exact True.intro | rfl | assumption | exact mc_ok rfl | exact mr_ok | exact fun _ => rfl | (refine And.intro ?_ ?_) | (intro _ _; rfl) | ((conv => whnf); (first | exact True.intro | (refine And.intro ?_ ?_)))))
          all_goals (show ((n - 1 : Nat) : Int) = IntKind.i64.wrap ((n : Int) - 1); rw [wrap_id (by omega) (by omega)]; omega)
        · intro h3
          (conv => whnf)
          refine ⟨(1000, (n : Int), 1, n), [some 0, some 1, some 2, some 3, some 4], ⟨.inl ⟨rfl, rfl, by show 1 ≤ n; omega, by show n ≤ 300; omega⟩, by show (0 : Int) ≤ 1; omega, by show (1 : Int) < 18446744073709551616; omega⟩, ?_⟩
          (repeat' (first | exact True.intro | rfl | assumption | exact mc_ok rfl | exact mr_ok | exact fun _ => rfl | (refine And.intro ?_ ?_) | (intro _ _; rfl) | ((conv => whnf); (first | exact True.intro | (refine And.intro ?_ ?_)))))
      have hf : fullOk N E last := hf
      have hs : 0 ≤ seed ∧ seed < 18446744073709551616 := hs
      have hl3 : last ≤ 300 := by rcases hf with q | q <;> omega
      have hN1 : 1 ≤ N := by rcases hf with q | q <;> omega
      (conv => whnf)
      refine ⟨fun hh => absurd (show (!decide ((0 : Int) = 0)) = true from hh) (by decide), fun _ => ?_⟩
      (conv => whnf)
      refine .inl ⟨Nat × GG, fun x => [(2, .int .u8 lk), (7, .ptr 0 0), (9, i64 last), (10, i64 x.1)], fun x => x.2.all _root_.id, fun x => last + 1 - x.1, fun x => x.1 ≤ last + 1 ∧ FI N E last x.1 x.2, 5,
        ⟨(0, ⟨N, E, seed, fun _ => 0, m1e, m2e, [], 8, fun _ => 0, 0, 0⟩), [some 0, some 1, some 2, some 3, some 4], ⟨Nat.zero_le _, rfl, rfl, GU.new hN1 hs, by rw [Nat.zero_min]; exact Chain.zero, by rw [Nat.zero_min]; rfl, Int.le_refl _⟩, ?_⟩, fun _ => rfl, fun ⟨i, g⟩ ⟨hi, hF⟩ => ?_⟩
      · (repeat' (first | exact True.intro | rfl | assumption | exact mc_ok rfl | exact mr_ok | exact fun _ => rfl | (refine And.intro ?_ ?_) | (intro _ _; rfl) | ((conv => whnf); (first | exact True.intro | (refine And.intro ?_ ?_)))))
      have hi : i ≤ last + 1 := hi
      have hF : FI N E last i g := hF
      have hW := hF.gw hl3 (by omega)
      (conv => whnf)
      constructor
      · intro h4
        have h4 : i ≤ last := by have : (i : Int) ≤ (last : Int) := of_decide_eq_true h4; omega
        have hch : Chain g.ns i := by have := hF.ch; rwa [Nat.min_eq_left h4] at this
        have hlk : g.lk = (i : Int) := by have := hF.lk; rwa [Nat.min_eq_left h4] at this
        have hR := hch.addR (by omega) N E
        have wi : IntKind.i64.wrap ((i : Int) + 1) = ((i + 1 : Nat) : Int) := wrap_inc (n := 1000) (by omega) (by omega)
        (conv => whnf)
        constructor
        · intro h5
          have h5 : i = last := by have : (last : Int) ≤ (i : Int) := of_decide_eq_true h5; omega
          rw [if_pos (by rcases hf with q | q <;> omega)] at hR
          (conv => whnf)
          refine ⟨i, [], by show i < 1000; omega, rfl, by (repeat' (first | exact True.intro | rfl | assumption | exact mc_ok rfl | exact mr_ok | exact fun _ => rfl | (refine And.intro ?_ ?_) | (intro _ _; rfl) | ((conv => whnf); (first | exact True.intro | (refine And.intro ?_ ?_))))), by (repeat' (first | exact True.intro | rfl | assumption | exact mc_ok rfl | exact mr_ok | exact fun _ => rfl | (refine And.intro ?_ ?_) | (intro _ _; rfl) | ((conv => whnf); (first | exact True.intro | (refine And.intro ?_ ?_))))), ?_⟩
          (conv => whnf)
          refine ⟨i + 1, [], by show i + 1 < 1000; omega, rfl, ?_, by (repeat' (first | exact True.intro | rfl | assumption | exact mc_ok rfl | exact mr_ok | exact fun _ => rfl | (refine And.intro ?_ ?_) | (intro _ _; rfl) | ((conv => whnf); (first | exact True.intro | (refine And.intro ?_ ?_))))), ?_⟩
          · (repeat' (first | exact True.intro | rfl | assumption | exact mc_ok rfl | exact mr_ok | exact fun _ => rfl | (refine And.intro ?_ ?_) | (intro _ _; rfl) | ((conv => whnf); (first | exact True.intro | (refine And.intro ?_ ?_)))))
            exact wi.symm
          (conv => whnf)
          refine ⟨(g, nm i, nm (i + 1), false, 7), [0, 1, 2, 3, 4], ⟨hW, nm_lt _, nm_lt _, by show addR g.N g.E g.lk g.ns (nm i) (nm (i + 1)) = (false, 7); rw [hF.eN, hF.eE, hlk]; exact hR⟩, rfl, by (repeat' (first | exact True.intro | rfl | assumption | exact mc_ok rfl | exact mr_ok | exact fun _ => rfl | (refine And.intro ?_ ?_) | (intro _ _; rfl) | ((conv => whnf); (first | exact True.intro | (refine And.intro ?_ ?_))))), by (repeat' (first | exact True.intro | rfl | assumption | exact mc_ok rfl | exact mr_ok | exact fun _ => rfl | (refine And.intro ?_ ?_) | (intro _ _; rfl) | ((conv => whnf); (first | exact True.intro | (refine And.intro ?_ ?_))))), fun adr M1 M2 ns m C sr k1 k2 k3 => ?_⟩
          have hR0 : addR g.N g.E g.lk g.ns (nm i) (nm (i + 1)) = (false, 7) := by rw [hF.eN, hF.eE, hlk]; exact hR
          have k1 : SameE (nsA g.N g.E g.lk g.ns (nm i) (nm (i + 1))) ns := k1
          have k2 : sr ≤ g.sr + 1 := k2
          have k3 : GU ⟨g.N, g.E, g.seed, adr, M1, M2, ns, m, C, lkA g.N g.E g.lk g.ns (nm i) (nm (i + 1)), sr⟩ := k3
          have el : lkA g.N g.E g.lk g.ns (nm i) (nm (i + 1)) = g.lk := by unfold lkA; rw [hR0]; rfl
          rw [show nsA g.N g.E g.lk g.ns (nm i) (nm (i + 1)) = g.ns by unfold nsA; rw [hR0]; rfl] at k1
          (conv => whnf)
          refine ⟨fun hh => absurd (show (!true) = true from hh) (by decide), fun _ => ?_⟩
          (conv => whnf)
          refine ⟨(i + 1, ⟨g.N, g.E, g.seed, adr, M1, M2, ns, m, C, lkA g.N g.E g.lk g.ns (nm i) (nm (i + 1)), sr⟩), [some 0, some 5, some 6, some 3, some 4], by show last + 1 - (i + 1) < last + 1 - i; omega, ⟨by show i + 1 ≤ last + 1; omega, hF.eN, hF.eE, k3, ?_, ?_, ?_⟩, ?_⟩
          · show Chain ns (min (i + 1) last)
            rw [Nat.min_eq_right (by omega), ← h5]
            exact hch.same k1
          · show lkA g.N g.E g.lk g.ns (nm i) (nm (i + 1)) = ((min (i + 1) last : Nat) : Int)
            rw [el, hlk, Nat.min_eq_right (by omega), ← h5]
          · show sr ≤ ((i + 1 : Nat) : Int)
            have := hF.sr
            omega
          (repeat' (first | exact True.intro | rfl | assumption | exact mc_ok rfl | exact mr_ok | exact fun _ => rfl | (refine And.intro ?_ ?_) | (intro _ _; rfl) | ((conv => whnf); (first | exact True.intro | (refine And.intro ?_ ?_)))))
          all_goals exact wi.symm
        · intro h5
          have h5 : ¬ last ≤ i := by have : ¬ (last : Int) ≤ (i : Int) := of_decide_eq_false h5; omega
          rw [if_neg (by rcases hf with q | q <;> omega)] at hR
          (conv => whnf)
          refine ⟨i, [], by show i < 1000; omega, rfl, by (repeat' (first | exact True.intro | rfl | assumption | exact mc_ok rfl | exact mr_ok | exact fun _ => rfl | (refine And.intro ?_ ?_) | (intro _ _; rfl) | ((conv => whnf); (first | exact True.intro | (refine And.intro ?_ ?_))))), by (repeat' (first | exact True.intro | rfl | assumption | exact mc_ok rfl | exact mr_ok | exact fun _ => rfl | (refine And.intro ?_ ?_) | (intro _ _; rfl) | ((conv => whnf); (first | exact True.intro | (refine And.intro ?_ ?_))))), ?_⟩
          (conv => whnf)
          refine ⟨i + 1, [], by show i + 1 < 1000; omega, rfl, ?_, by (repeat' (first | exact True.intro | rfl | assumption | exact mc_ok rfl | exact mr_ok | exact fun _ => rfl | (refine And.intro ?_ ?_) | (intro _ _; rfl) | ((conv => whnf); (first | exact True.intro | (refine And.intro ?_ ?_))))), ?_⟩
          · (repeat' (first | exact True.intro | rfl | assumption | exact mc_ok rfl | exact mr_ok | exact fun _ => rfl | (refine And.intro ?_ ?_) | (intro _ _; rfl) | ((conv => whnf); (first | exact True.intro | (refine And.intro ?_ ?_)))))
            exact wi.symm
          have hR0 : addR g.N g.E g.lk g.ns (nm i) (nm (i + 1)) = (true, 0) := by rw [hF.eN, hF.eE, hlk]; exact hR
          (conv => whnf)
          refine ⟨(g, nm i, nm (i + 1), true, 0), [0, 1, 2, 3, 4], ⟨hW, nm_lt _, nm_lt _, hR0⟩, rfl, by (repeat' (first | exact True.intro | rfl | assumption | exact mc_ok rfl | exact mr_ok | exact fun _ => rfl | (refine And.intro ?_ ?_) | (intro _ _; rfl) | ((conv => whnf); (first | exact True.intro | (refine And.intro ?_ ?_))))), by (repeat' (first | exact True.intro | rfl | assumption | exact mc_ok rfl | exact mr_ok | exact fun _ => rfl | (refine And.intro ?_ ?_) | (intro _ _; rfl) | ((conv => whnf); (first | exact True.intro | (refine And.intro ?_ ?_))))), fun adr M1 M2 ns m C sr k1 k2 k3 => ?_⟩
          have k1 : SameE (nsA g.N g.E g.lk g.ns (nm i) (nm (i + 1))) ns := k1
          have k2 : sr ≤ g.sr + 1 := k2
          have k3 : GU ⟨g.N, g.E, g.seed, adr, M1, M2, ns, m, C, lkA g.N g.E g.lk g.ns (nm i) (nm (i + 1)), sr⟩ := k3
          have el : lkA g.N g.E g.lk g.ns (nm i) (nm (i + 1)) = g.lk + 1 := by unfold lkA; rw [hR0]; rfl
          rw [show nsA g.N g.E g.lk g.ns (nm i) (nm (i + 1)) = addN g.ns (nm i) (nm (i + 1)) by unfold nsA; rw [hR0]; rfl] at k1
          (conv => whnf)
          refine ⟨fun hh => absurd (show (!true) = true from hh) (by decide), fun _ => ?_⟩
          (conv => whnf)
          refine ⟨(i + 1, ⟨g.N, g.E, g.seed, adr, M1, M2, ns, m, C, lkA g.N g.E g.lk g.ns (nm i) (nm (i + 1)), sr⟩), [some 0, some 5, some 6, some 3, some 4], by show last + 1 - (i + 1) < last + 1 - i; omega, ⟨by show i + 1 ≤ last + 1; omega, hF.eN, hF.eE, k3, ?_, ?_, ?_⟩, ?_⟩
          · show Chain ns (min (i + 1) last)
            rw [Nat.min_eq_left (by omega)]
            exact (hch.add (by omega)).same k1
          · show lkA g.N g.E g.lk g.ns (nm i) (nm (i + 1)) = ((min (i + 1) last : Nat) : Int)
            rw [el, hlk, Nat.min_eq_left (by omega)]
            rfl
          · show sr ≤ ((i + 1 : Nat) : Int)
            have := hF.sr
            omega
          (repeat' (first | exact True.intro | rfl | assumption | exact mc_ok rfl | exact mr_ok | exact fun _ => rfl | (refine And.intro ?_ ?_) | (intro _ _; rfl) | ((conv => whnf); (first | exact True.intro | (refine And.intro ?_ ?_)))))
          all_goals exact wi.symm
      · intro h4
        have h4 : ¬ i ≤ last := by have : ¬ (i : Int) ≤ (last : Int) := of_decide_eq_false h4; omega
        obtain rfl : i = last + 1 := by omega
        have hch : Chain g.ns last := by have := hF.ch; rwa [Nat.min_eq_right (by omega)] at this
        have hlk : g.lk = (last : Int) := by have := hF.lk; rwa [Nat.min_eq_right (by omega)] at this
        have hsr := hF.sr
        have hle := hch.len
        (conv => whnf)
        constructor
        · intro h5
          have h5 : last = 0 := by have : (last : Int) = 0 := of_decide_eq_true h5; omega
          rw [if_pos h5] at hle
          (conv => whnf)
          refine ⟨(g, 0, 0), [0, 1, 2, 3, 4], ⟨by show 1 ≤ g.N; rw [hF.eN]; exact hN1, by show (g.ns.length : Int) = 0; rw [hle]; rfl, by show g.lk = 0; omega⟩, rfl, by (repeat' (first | exact True.intro | rfl | assumption | exact mc_ok rfl | exact mr_ok | exact fun _ => rfl | (refine And.intro ?_ ?_) | (intro _ _; rfl) | ((conv => whnf); (first | exact True.intro | (refine And.intro ?_ ?_))))), by (repeat' (first | exact True.intro | rfl | assumption | exact mc_ok rfl | exact mr_ok | exact fun _ => rfl | (refine And.intro ?_ ?_) | (intro _ _; rfl) | ((conv => whnf); (first | exact True.intro | (refine And.intro ?_ ?_))))), ?_⟩
          (conv => whnf)
          refine ⟨fun _ => ?_, fun hh => Bool.noConfusion (show true = false from hh)⟩
          (conv => whnf)
          refine ⟨[], _, _, hR, ?_⟩
          (repeat' (first | exact True.intro | rfl | assumption | exact mc_ok rfl | exact mr_ok | exact fun _ => rfl | (refine And.intro ?_ ?_) | (intro _ _; rfl) | ((conv => whnf); (first | exact True.intro | (refine And.intro ?_ ?_)))))
        · intro h5
          have h5 : 1 ≤ last := by have : ¬ (last : Int) = 0 := of_decide_eq_false h5; omega
          rw [if_neg (by omega)] at hle
          have wl : IntKind.i64.wrap ((last : Int) + 1) = ((last + 1 : Nat) : Int) := wrap_inc (n := 1000) (by omega) (by omega)
          (conv => whnf)
          refine ⟨(g, ((last + 1 : Nat) : Int), (last : Int)), [0, 1, 2, 3, 4], ⟨by show 1 ≤ g.N; rw [hF.eN]; exact hN1, by show (g.ns.length : Int) = ((last + 1 : Nat) : Int); rw [hle], hlk⟩, rfl, ?_, by (repeat' (first | exact True.intro | rfl | assumption | exact mc_ok rfl | exact mr_ok | exact fun _ => rfl | (refine And.intro ?_ ?_) | (intro _ _; rfl) | ((conv => whnf); (first | exact True.intro | (refine And.intro ?_ ?_))))), ?_⟩
          · (repeat' (first | exact True.intro | rfl | assumption | exact mc_ok rfl | exact mr_ok | exact fun _ => rfl | (refine And.intro ?_ ?_) | (intro _ _; rfl) | ((conv => whnf); (first | exact True.intro | (refine And.intro ?_ ?_)))))
            exact wl.symm
          (conv => whnf)
          refine ⟨fun _ => ?_, fun hh => absurd (show (!true) = true from hh) (by decide)⟩
          (conv => whnf)
          refine ⟨last, [], by show last < 1000; omega, rfl, by (repeat' (first | exact True.intro | rfl | assumption | exact mc_ok rfl | exact mr_ok | exact fun _ => rfl | (refine And.intro ?_ ?_) | (intro _ _; rfl) | ((conv => whnf); (first | exact True.intro | (refine And.intro ?_ ?_))))), by (repeat' (first | exact True.intro | rfl | assumption | exact mc_ok rfl | exact mr_ok | exact fun _ => rfl | (refine And.intro ?_ ?_) | (intro _ _; rfl) | ((conv => whnf); (first | exact True.intro | (refine And.intro ?_ ?_))))), ?_⟩
          (conv => whnf)
          refine ⟨(0 : Nat), [], by show 0 < 1000; omega, rfl, by (repeat' (first | exact True.intro | rfl | assumption | exact mc_ok rfl | exact mr_ok | exact fun _ => rfl | (refine And.intro ?_ ?_) | (intro _ _; rfl) | ((conv => whnf); (first | exact True.intro | (refine And.intro ?_ ?_))))), by (repeat' (first | exact True.intro | rfl | assumption | exact mc_ok rfl | exact mr_ok | exact fun _ => rfl | (refine And.intro ?_ ?_) | (intro _ _; rfl) | ((conv => whnf); (first | exact True.intro | (refine And.intro ?_ ?_))))), ?_⟩
          (conv => whnf)
          have hb := hch.back h5 (by omega) g.N g.E g.lk
          refine ⟨(g, nm last, nm 0, false, 13), [0, 1, 2, 3, 4], ⟨hW, nm_lt _, nm_lt _, hb⟩, rfl, by (repeat' (first | exact True.intro | rfl | assumption | exact mc_ok rfl | exact mr_ok | exact fun _ => rfl | (refine And.intro ?_ ?_) | (intro _ _; rfl) | ((conv => whnf); (first | exact True.intro | (refine And.intro ?_ ?_))))), by (repeat' (first | exact True.intro | rfl | assumption | exact mc_ok rfl | exact mr_ok | exact fun _ => rfl | (refine And.intro ?_ ?_) | (intro _ _; rfl) | ((conv => whnf); (first | exact True.intro | (refine And.intro ?_ ?_))))), fun adr M1 M2 ns m C sr k1 k2 k3 => ?_⟩
          have k1 : SameE (nsA g.N g.E g.lk g.ns (nm last) (nm 0)) ns := k1
          have k2 : sr ≤ g.sr + 1 := k2
          have k3 : GU ⟨g.N, g.E, g.seed, adr, M1, M2, ns, m, C, lkA g.N g.E g.lk g.ns (nm last) (nm 0), sr⟩ := k3
          rw [show nsA g.N g.E g.lk g.ns (nm last) (nm 0) = g.ns by unfold nsA; rw [hb]; rfl] at k1
          have hch2 := hch.same k1
          (conv => whnf)
          refine ⟨fun _ => ?_, fun hh => absurd (show (!true) = true from hh) (by decide)⟩
          (conv => whnf)
          refine ⟨(0 : Nat), [], by show 0 < 1000; omega, rfl, by (repeat' (first | exact True.intro | rfl | assumption | exact mc_ok rfl | exact mr_ok | exact fun _ => rfl | (refine And.intro ?_ ?_) | (intro _ _; rfl) | ((conv => whnf); (first | exact True.intro | (refine And.intro ?_ ?_))))), by (repeat' (first | exact True.intro | rfl | assumption | exact mc_ok rfl | exact mr_ok | exact fun _ => rfl | (refine And.intro ?_ ?_) | (intro _ _; rfl) | ((conv => whnf); (first | exact True.intro | (refine And.intro ?_ ?_))))), ?_⟩
          (conv => whnf)
          refine ⟨last, [], by show last < 1000; omega, rfl, by (repeat' (first | exact True.intro | rfl | assumption | exact mc_ok rfl | exact mr_ok | exact fun _ => rfl | (refine And.intro ?_ ?_) | (intro _ _; rfl) | ((conv => whnf); (first | exact True.intro | (refine And.intro ?_ ?_))))), by (repeat' (first | exact True.intro | rfl | assumption | exact mc_ok rfl | exact mr_ok | exact fun _ => rfl | (refine And.intro ?_ ?_) | (intro _ _; rfl) | ((conv => whnf); (first | exact True.intro | (refine And.intro ?_ ?_))))), ?_⟩
          (conv => whnf)
          have hr2 := hch2.reach h5 (by omega) (n := (last : Int)) (by omega)
          rw [if_neg (by omega)] at hr2
          refine ⟨(⟨g.N, g.E, g.seed, adr, M1, M2, ns, m, C, lkA g.N g.E g.lk g.ns (nm last) (nm 0), sr⟩, nm 0, nm last, (last : Int), true, (last : Int), 0), [0, 5, 6, 3, 4], ⟨⟨k3, by show sr < 1000000000; omega⟩, nm_lt _, nm_lt _, hr2⟩, rfl, by (repeat' (first | exact True.intro | rfl | assumption | exact mc_ok rfl | exact mr_ok | exact fun _ => rfl | (refine And.intro ?_ ?_) | (intro _ _; rfl) | ((conv => whnf); (first | exact True.intro | (refine And.intro ?_ ?_))))), by (repeat' (first | exact True.intro | rfl | assumption | exact mc_ok rfl | exact mr_ok | exact fun _ => rfl | (refine And.intro ?_ ?_) | (intro _ _; rfl) | ((conv => whnf); (first | exact True.intro | (refine And.intro ?_ ?_))))), fun M3 ns3 sr3 j1 j2 j3 => ?_⟩
          have j1 : SameE ns ns3 := j1
          have j2 : sr3 ≤ sr + 1 := j2
          have hch3 := hch2.same j1
          (conv => whnf)
          refine ⟨fun hh => absurd (show (!true) = true from hh) (by decide), fun _ => ?_⟩
          have wk : IntKind.i64.wrap lk = lk := wrap_id (by omega) (by omega)
          have j3 : GU { (⟨g.N, g.E, g.seed, adr, M1, M2, ns, m, C, lkA g.N g.E g.lk g.ns (nm last) (nm 0), sr⟩ : GG) with M1 := M3, ns := ns3, sr := sr3 } := j3
          have hr3 := hch3.reach h5 (by omega) (n := lk) hl0
          (conv => whnf)
          constructor
          · intro h6
            have h6 : lk < (last : Int) := by have := of_decide_eq_true h6; rwa [wk] at this
            rw [if_pos h6] at hr3
            (conv => whnf)
            refine ⟨(0 : Nat), [], by show 0 < 1000; omega, rfl, by (repeat' (first | exact True.intro | rfl | assumption | exact mc_ok rfl | exact mr_ok | exact fun _ => rfl | (refine And.intro ?_ ?_) | (intro _ _; rfl) | ((conv => whnf); (first | exact True.intro | (refine And.intro ?_ ?_))))), by (repeat' (first | exact True.intro | rfl | assumption | exact mc_ok rfl | exact mr_ok | exact fun _ => rfl | (refine And.intro ?_ ?_) | (intro _ _; rfl) | ((conv => whnf); (first | exact True.intro | (refine And.intro ?_ ?_))))), ?_⟩
            (conv => whnf)
            refine ⟨last, [], by show last < 1000; omega, rfl, by (repeat' (first | exact True.intro | rfl | assumption | exact mc_ok rfl | exact mr_ok | exact fun _ => rfl | (refine And.intro ?_ ?_) | (intro _ _; rfl) | ((conv => whnf); (first | exact True.intro | (refine And.intro ?_ ?_))))), by (repeat' (first | exact True.intro | rfl | assumption | exact mc_ok rfl | exact mr_ok | exact fun _ => rfl | (refine And.intro ?_ ?_) | (intro _ _; rfl) | ((conv => whnf); (first | exact True.intro | (refine And.intro ?_ ?_))))), ?_⟩
            (conv => whnf)
            refine ⟨(⟨g.N, g.E, g.seed, adr, M3, M2, ns3, m, C, lkA g.N g.E g.lk g.ns (nm last) (nm 0), sr3⟩, nm 0, nm last, lk, false, lk, 7), [0, 5, 6, 3, 4], ⟨⟨j3, by show sr3 < 1000000000; omega⟩, nm_lt _, nm_lt _, hr3⟩, rfl, ?_, by (repeat' (first | exact True.intro | rfl | assumption | exact mc_ok rfl | exact mr_ok | exact fun _ => rfl | (refine And.intro ?_ ?_) | (intro _ _; rfl) | ((conv => whnf); (first | exact True.intro | (refine And.intro ?_ ?_))))), fun M4 ns4 sr4 _ _ _ => ?_⟩
            · (repeat' (first | exact True.intro | rfl | assumption | exact mc_ok rfl | exact mr_ok | exact fun _ => rfl | (refine And.intro ?_ ?_) | (intro _ _; rfl) | ((conv => whnf); (first | exact True.intro | (refine And.intro ?_ ?_)))))
              all_goals exact wk.symm
            (conv => whnf)
            refine ⟨fun _ => ?_, fun hh => Bool.noConfusion (show true = false from hh)⟩
            (conv => whnf)
            refine ⟨[], _, _, hR, ?_⟩
            (repeat' (first | exact True.intro | rfl | assumption | exact mc_ok rfl | exact mr_ok | exact fun _ => rfl | (refine And.intro ?_ ?_) | (intro _ _; rfl) | ((conv => whnf); (first | exact True.intro | (refine And.intro ?_ ?_)))))
          · intro h6
            have h6 : ¬ lk < (last : Int) := by have := of_decide_eq_false h6; rwa [wk] at this
            rw [if_neg h6] at hr3
            (conv => whnf)
            refine ⟨(0 : Nat), [], by show 0 < 1000; omega, rfl, by (repeat' (first | exact True.intro | rfl | assumption | exact mc_ok rfl | exact mr_ok | exact fun _ => rfl | (refine And.intro ?_ ?_) | (intro _ _; rfl) | ((conv => whnf); (first | exact True.intro | (refine And.intro ?_ ?_))))), by (repeat' (first | exact True.intro | rfl | assumption | exact mc_ok rfl | exact mr_ok | exact fun _ => rfl | (refine And.intro ?_ ?_) | (intro _ _; rfl) | ((conv => whnf); (first | exact True.intro | (refine And.intro ?_ ?_))))), ?_⟩
            (conv => whnf)
            refine ⟨last, [], by show last < 1000; omega, rfl, by (repeat' (first | exact True.intro | rfl | assumption | exact mc_ok rfl | exact mr_ok | exact fun _ => rfl | (refine And.intro ?_ ?_) | (intro _ _; rfl) | ((conv => whnf); (first | exact True.intro | (refine And.intro ?_ ?_))))), by (repeat' (first | exact True.intro | rfl | assumption | exact mc_ok rfl | exact mr_ok | exact fun _ => rfl | (refine And.intro ?_ ?_) | (intro _ _; rfl) | ((conv => whnf); (first | exact True.intro | (refine And.intro ?_ ?_))))), ?_⟩
            (conv => whnf)
            refine ⟨(⟨g.N, g.E, g.seed, adr, M3, M2, ns3, m, C, lkA g.N g.E g.lk g.ns (nm last) (nm 0), sr3⟩, nm 0, nm last, lk, true, (last : Int), 0), [0, 5, 6, 3, 4], ⟨⟨j3, by show sr3 < 1000000000; omega⟩, nm_lt _, nm_lt _, hr3⟩, rfl, ?_, by (repeat' (first | exact True.intro | rfl | assumption | exact mc_ok rfl | exact mr_ok | exact fun _ => rfl | (refine And.intro ?_ ?_) | (intro _ _; rfl) | ((conv => whnf); (first | exact True.intro | (refine And.intro ?_ ?_))))), fun M4 ns4 sr4 _ _ _ => ?_⟩
            · (repeat' (first | exact True.intro | rfl | assumption | exact mc_ok rfl | exact mr_ok | exact fun _ => rfl | (refine And.intro ?_ ?_) | (intro _ _; rfl) | ((conv => whnf); (first | exact True.intro | (refine And.intro ?_ ?_)))))
              all_goals exact wk.symm
            (conv => whnf)
            refine ⟨fun _ => ?_, fun hh => Bool.noConfusion (show true = false from hh)⟩
            (conv => whnf)
            refine ⟨[], _, _, hR, ?_⟩
            (repeat' (first | exact True.intro | rfl | assumption | exact mc_ok rfl | exact mr_ok | exact fun _ => rfl | (refine And.intro ?_ ?_) | (intro _ _; rfl) | ((conv => whnf); (first | exact True.intro | (refine And.intro ?_ ?_)))))
  · intro h1
    (conv => whnf)
    refine ⟨[], _, _, hR, ?_⟩
    (repeat' (first | exact True.intro | rfl | assumption | exact mc_ok rfl | exact mr_ok | exact fun _ => rfl | (refine And.intro ?_ ?_) | (intro _ _; rfl) | ((conv => whnf); (first | exact True.intro | (refine And.intro ?_ ?_)))))
/-- Nothing is known of a state of no objects. -/
theorem rel_none (w : World) : Rel ⟨fun _ => none, fun _ => 0, fun _ => 0, fun _ => false, fun _ => none, fun _ _ => False⟩ (locS []) w := by
  have no : ∀ i o, ¬ (locS []).H.get i = some o := fun i o hi => by
    rw [(locS_is (l := []) (by simp)).get] at hi
    simp at hi
  exact ⟨fun i o hi => absurd hi (no i o), fun i j oi oj k _ _ hk => hk.elim, fun i o k _ hk => hk.elim, fun i hi => ⟨rfl, rfl, rfl⟩, fun i o hi => absurd hi (no i o), fun i v hv => (by cases hv), fun i b hb => (by cases hb)⟩
theorem u8_wf {n : Int} (h : (Lit.int .u8 n).wf = true) : 0 ≤ n ∧ n < 256 := by
  simp [Lit.wf, IntKind.min, IntKind.max, IntKind.signed, IntKind.bits] at h
  omega
theorem lFull (most : Int) (nd : Bool) (lk : Int) (hl : 0 ≤ lk ∧ lk < 256) (W : World) : Calls Try.prog 5 #[.int .i64 most, .bool nd, .int .u8 lk] W fun e w' => e = .returned (.bool true) ∧ Below W.heap.size W w' :=
  SFull_top (most, nd, lk) hl ⟨rfl, rfl⟩ (fun o ho => by cases ho) _ W [.int .i64 most, .bool nd, .int .u8 lk] (rel_none W) (fun i c n f e sz k _ hk => hk.elim) rfl
end Go.Proofs.Ytmgcpfljhcahoaa
