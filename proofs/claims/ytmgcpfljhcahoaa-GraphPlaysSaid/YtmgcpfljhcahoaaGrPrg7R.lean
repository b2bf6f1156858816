/- What the functions of package graph compute: Add. -/
import Derived.Test.YtmgcpfljhcahoaaGrAddR
namespace Go.Proofs.Ytmgcpfljhcahoaa
open Go Sy Tb Gr
set_option maxRecDepth 100000
set_option maxHeartbeats 4000000

def addR (N E lk : Int) (ns : List NS) (p c : Bs) : Bool × Int :=
  if (validK p && validK c) = true then (if edge ns p c = true then (false, 0) else if (reachR ns c p 65536).1 = true ∨ p = c then (false, 13) else if N < ((put2 ns p c).length : Int) ∨ lk = E then (false, 7) else (true, 0)) else (false, 2)
def nsA (N E lk : Int) (ns : List NS) (p c : Bs) : List NS := if (addR N E lk ns p c).1 = true then addN ns p c else ns
def lkA (N E lk : Int) (ns : List NS) (p c : Bs) : Int := if (addR N E lk ns p c).1 = true then lk + 1 else lk
theorem conAd : ConOk Try.prog (conOf [(43, SCheck.T), (30, SHas.T), (29, SReach.T), (44, SFind.T), (45, SPut.T)]) :=
  conOf_cons (LSpec.call SCheck_nt SCheck_ok) (conOf_cons (LSpec.call SHas_nt SHas_ok) (conOf_cons (LSpec.call SReach_nt SReach_ok) (conOf_cons (LSpec.call SFind_nt SFind_ok) (conOf_cons (LSpec.call SPut_nt SPut_ok) conOf_nil))))
/-- What is asked of a graph that is changed. -/
structure GW (g : GG) : Prop where
  gu : GU g
  pu : PU g.ns
  len : g.ns.length ≤ 9000
  lk : 0 ≤ g.lk ∧ g.lk < 1000000000
  srb : g.sr < 1000000000
def SAdd : LSpec where
  X := GG × Bs × Bs
  k := 5
  pre x := GW x.1 ∧ x.2.1.size ≤ 1000000 ∧ x.2.2.size ≤ 1000000
  args x θ := [.ptr (θ 0) 0, .str x.2.1, .str x.2.2]
  objs x θ := x.1.objs θ
  out x θ R := ∀ adr M1 M2 ns m C sr, SameE (nsA x.1.N x.1.E x.1.lk x.1.ns x.2.1 x.2.2) ns → sr ≤ x.1.sr + 1 → GU ⟨x.1.N, x.1.E, x.1.seed, adr, M1, M2, ns, m, C, lkA x.1.N x.1.E x.1.lk x.1.ns x.2.1 x.2.2, sr⟩ →
    R (.tup [.sb (addR x.1.N x.1.E x.1.lk x.1.ns x.2.1 x.2.2).1, i64 (addR x.1.N x.1.E x.1.lk x.1.ns x.2.1 x.2.2).2]) [some (grC (θ 5) (θ 6) x.1.N x.1.E x.1.seed ns.length m (lkA x.1.N x.1.E x.1.lk x.1.ns x.2.1 x.2.2) sr), none, none, some (mcO (θ 4) M1), some (mrO M2), some (lsR (θ 3) ns.length adr), some (ceR m C)]
theorem SAdd_nt : SAdd.Nt := ⟨fun _ _ => rfl, by unfold SAdd GG.objs; (intros; simp only [ren_all] at *; try assumption), by unfold SAdd; (intros; simp only [ren_all] at *; try assumption)⟩
/-- The two keys may come in. -/
structure RA (g : GG) (p c : Bs) (M1 : Nat → Option ND) (ns : List NS) (sr : Int) : Prop where
  vp : validK p = true
  vc : validK c = true
  ne : p ≠ c
  ed : edge g.ns p c = false
  rc : (reachR g.ns c p 65536).1 = false
  same : SameE g.ns ns
  sr1 : sr ≤ g.sr + 1
  gu : GU { g with M1 := M1, ns := ns, sr := sr }
theorem SAdd_ok : SAdd.Ok Try.prog 21 := by
  refine LSpec.of_bodyC [14] noGo mixed conAd Try.func21 rfl (by kernel_rfl) fun ⟨g, p, c⟩ R ⟨hW, hp, hc⟩ hR => ?_
  have hW : GW g := hW
  have hp : p.size ≤ 1000000 := hp
  have hc : c.size ≤ 1000000 := hc
  have hQ : ∀ adr M1 M2 ns m C sr, SameE (nsA g.N g.E g.lk g.ns p c) ns → sr ≤ g.sr + 1 → GU ⟨g.N, g.E, g.seed, adr, M1, M2, ns, m, C, lkA g.N g.E g.lk g.ns p c, sr⟩ →
    R (.tup [.sb (addR g.N g.E g.lk g.ns p c).1, i64 (addR g.N g.E g.lk g.ns p c).2]) [some (grC 5 6 g.N g.E g.seed ns.length m (lkA g.N g.E g.lk g.ns p c) sr), none, none, some (mcO 4 M1), some (mrO M2), some (lsR 3 ns.length adr), some (ceR m C)] := hR
  have hU := hW.gu
  have hN := hU.n1
  have hnl := hW.len
  -- nothing changes but marks
  have hno : ∀ r M1 ns sr, addR g.N g.E g.lk g.ns p c = (false, r) → SameE g.ns ns → sr ≤ g.sr + 1 → GU { g with M1 := M1, ns := ns, sr := sr } →
      R (.tup [.sb false, i64 r]) [some (grC 5 6 g.N g.E g.seed ns.length g.m g.lk sr), none, none, some (mcO 4 M1), some (mrO g.M2), some (lsR 3 ns.length g.adr), some (ceR g.m g.C)] := fun r M1 ns sr e h1 h2 h3 => by
    have h := hQ g.adr M1 g.M2 ns g.m g.C sr
    unfold nsA lkA at h
    rw [e] at h
    exact h h1 h2 h3
  (conv => whnf)
  refine ⟨(g, p, c), [0, 1, 2, 3, 4], hN, rfl, by (repeat' (first | exact True.intro | rfl | assumption | exact mc_ok rfl | exact mr_ok | exact fun _ => rfl | (refine And.intro ?_ ?_) | (intro _ _; rfl) | ((conv => whnf); (first | exact True.intro | (refine And.intro ?_ ?_))))), by (repeat' (first | exact True.intro | rfl | assumption | exact mc_ok rfl | exact mr_ok | exact fun _ => rfl | (refine And.intro ?_ ?_) | (intro _ _; rfl) | ((conv => whnf); (first | exact True.intro | (refine And.intro ?_ ?_))))), ?_⟩
  (conv => whnf)
  constructor
  · intro h1
    have hv : (validK p && validK c) = true := Decidable.byContradiction fun q => by
      rw [chkE_no q] at h1
      exact absurd h1 (by decide)
    have hv2 : validK p = true ∧ validK c = true := by rwa [Bool.and_eq_true] at hv
    (conv => whnf)
    refine ⟨(g, p, c), [0, 1, 2, 3, 4], ⟨hU.gt, hN, hp, hc, fun i hi => Nat.le_trans (hU.ei.len false i hi) (by omega)⟩, rfl, by (repeat' (first | exact True.intro | rfl | assumption | exact mc_ok rfl | exact mr_ok | exact fun _ => rfl | (refine And.intro ?_ ?_) | (intro _ _; rfl) | ((conv => whnf); (first | exact True.intro | (refine And.intro ?_ ?_))))), by (repeat' (first | exact True.intro | rfl | assumption | exact mc_ok rfl | exact mr_ok | exact fun _ => rfl | (refine And.intro ?_ ?_) | (intro _ _; rfl) | ((conv => whnf); (first | exact True.intro | (refine And.intro ?_ ?_))))), ?_⟩
    (conv => whnf)
    constructor
    · intro h2
      have h2 : edge g.ns p c = true := h2
      have hF := hno 0 g.M1 g.ns g.sr (by unfold addR; rw [if_pos hv, if_pos h2]) (SameE.refl _) (by omega) hU
      (conv => whnf)
      refine ⟨[some 1, some 2], _, _, hF, ?_⟩
      (repeat' (first | exact True.intro | rfl | assumption | exact mc_ok rfl | exact mr_ok | exact fun _ => rfl | (refine And.intro ?_ ?_) | (intro _ _; rfl) | ((conv => whnf); (first | exact True.intro | (refine And.intro ?_ ?_)))))
      all_goals exact (chkE_yes hv).symm
    · intro h2
      have h2 : edge g.ns p c = false := h2
      have h2' : ¬ edge g.ns p c = true := by rw [h2]; exact Bool.false_ne_true
      (conv => whnf)
      refine ⟨(g, c, p, 65536), [0, 1, 2, 3, 4], ⟨hU, hc, hp⟩, rfl, by (repeat' (first | exact True.intro | rfl | assumption | exact mc_ok rfl | exact mr_ok | exact fun _ => rfl | (refine And.intro ?_ ?_) | (intro _ _; rfl) | ((conv => whnf); (first | exact True.intro | (refine And.intro ?_ ?_))))), by (repeat' (first | exact True.intro | rfl | assumption | exact mc_ok rfl | exact mr_ok | exact fun _ => rfl | (refine And.intro ?_ ?_) | (intro _ _; rfl) | ((conv => whnf); (first | exact True.intro | (refine And.intro ?_ ?_))))), fun M1 ns sr hs hsr hgu => ?_⟩
      have hs : SameE g.ns ns := hs
      have hsr : sr ≤ g.sr + 1 := hsr
      have hgu : GU { g with M1 := M1, ns := ns, sr := sr } := hgu (by have := hW.srb; omega)
      have hgt : GT { g with M1 := M1, ns := ns, sr := sr } ns.length := hgu.gt
      have hln := hs.len
      (conv => whnf)
      constructor
      · intro h3
        have h3 : (reachR g.ns c p 65536).1 = false := h3
        have h3' : ¬ (reachR g.ns c p 65536).1 = true := by rw [h3]; exact Bool.false_ne_true
        (conv => whnf)
        constructor
        · intro h4
          have h4 : p = c := of_decide_eq_true h4
          have hF := hno 13 M1 ns sr (by unfold addR; rw [if_pos hv, if_neg h2', if_pos (.inr h4)]) hs hsr hgu
          (conv => whnf)
          refine ⟨[some 1, some 2], _, _, hF, ?_⟩
          (repeat' (first | exact True.intro | rfl | assumption | exact mc_ok rfl | exact mr_ok | exact fun _ => rfl | (refine And.intro ?_ ?_) | (intro _ _; rfl) | ((conv => whnf); (first | exact True.intro | (refine And.intro ?_ ?_)))))
        · intro h4
          have h4 : p ≠ c := of_decide_eq_false h4
          have hra : RA g p c M1 ns sr := ⟨hv2.1, hv2.2, h4, h2, h3, hs, hsr, hgu⟩
          have hl2 : ((put2 g.ns p c).length : Int) = ((g.ns.length : Int) + (if idxI ns p < 0 then 1 else 0)) + (if idxI ns c < 0 then 1 else 0) := by
            unfold put2
            rw [putN_len, putN_len, hs.idx hW.pu.dk, hs.idx hW.pu.dk]
            by_cases q1 : idxI g.ns p < 0 <;> by_cases q2 : idxI g.ns c < 0
            · rw [if_pos q1, if_pos q1, if_pos q2, if_pos ((idx_put h4).2 q2)]; omega
            · rw [if_pos q1, if_pos q1, if_neg q2, if_neg (fun q => q2 ((idx_put h4).1 q))]; omega
            · rw [if_neg q1, if_neg q1, if_pos q2, if_pos ((idx_put h4).2 q2)]; omega
            · rw [if_neg q1, if_neg q1, if_neg q2, if_neg (fun q => q2 ((idx_put h4).1 q))]; omega
          have w1 : IntKind.i64.wrap ((g.ns.length : Int) + 1) = (g.ns.length : Int) + 1 := wrap_id (by omega) (by omega)
          have w2 : IntKind.i64.wrap ((g.ns.length : Int) + 1 + 1) = (g.ns.length : Int) + 1 + 1 := wrap_id (by omega) (by omega)
          (conv => whnf)
          refine ⟨Unit, fun _ => [(0, .ptr 0 0), (1, .str p), (2, .str c), (12, i64 (put2 g.ns p c).length)], fun _ => [some (grC 1 2 g.N g.E g.seed ns.length g.m g.lk sr), some (lsR 3 ns.length g.adr), some (ceR g.m g.C), some (mcO 4 M1), some (mrO g.M2)], fun _ => True, 5, fun _ => rfl, ?_, fun _ _ => ?_⟩
          · (conv => whnf)
            refine .inr ?_
            (conv => whnf)
            refine ⟨fun _ => ?_, fun hh => absurd hh (by decide)⟩
            (conv => whnf)
            refine ⟨({ g with M1 := M1, ns := ns, sr := sr }, p), [0, 1, 2, 3, 4], ⟨hgt, hp⟩, rfl, by (repeat' (first | exact True.intro | rfl | assumption | exact mc_ok rfl | exact mr_ok | exact fun _ => rfl | (refine And.intro ?_ ?_) | (intro _ _; rfl) | ((conv => whnf); (first | exact True.intro | (refine And.intro ?_ ?_))))), by (repeat' (first | exact True.intro | rfl | assumption | exact mc_ok rfl | exact mr_ok | exact fun _ => rfl | (refine And.intro ?_ ?_) | (intro _ _; rfl) | ((conv => whnf); (first | exact True.intro | (refine And.intro ?_ ?_))))), ?_⟩
            (conv => whnf)
            constructor
            · intro h5
              have h5 : idxI ns p < 0 := of_decide_eq_true h5
              (conv => whnf)
              refine .inr ?_
              (conv => whnf)
              refine ⟨fun _ => ?_, fun hh => absurd hh (by decide)⟩
              (conv => whnf)
              refine ⟨({ g with M1 := M1, ns := ns, sr := sr }, c), [0, 1, 2, 3, 4], ⟨hgt, hc⟩, rfl, by (repeat' (first | exact True.intro | rfl | assumption | exact mc_ok rfl | exact mr_ok | exact fun _ => rfl | (refine And.intro ?_ ?_) | (intro _ _; rfl) | ((conv => whnf); (first | exact True.intro | (refine And.intro ?_ ?_))))), by (repeat' (first | exact True.intro | rfl | assumption | exact mc_ok rfl | exact mr_ok | exact fun _ => rfl | (refine And.intro ?_ ?_) | (intro _ _; rfl) | ((conv => whnf); (first | exact True.intro | (refine And.intro ?_ ?_))))), ?_⟩
              (conv => whnf)
              constructor
              · intro h6
                have h6 : idxI ns c < 0 := of_decide_eq_true h6
                (conv => whnf)
                refine .inr ?_
                (conv => whnf)
                refine ⟨fun hh => absurd hh (by decide), fun _ => ?_⟩
                (conv => whnf)
                refine ⟨(), [], trivial, ?_⟩
                (repeat' (first | exact True.intro | rfl | assumption | exact mc_ok rfl | exact mr_ok | exact fun _ => rfl | (refine And.intro ?_ ?_) | (intro _ _; rfl) | ((conv => whnf); (first | exact True.intro | (refine And.intro ?_ ?_)))))
                all_goals (show ((put2 g.ns p c).length : Int) = IntKind.i64.wrap (IntKind.i64.wrap ((ns.length : Int) + 1) + 1); rw [hln, w1, w2, hl2, if_pos h5, if_pos h6])
              · intro h6
                have h6 : ¬ idxI ns c < 0 := of_decide_eq_false h6
                (conv => whnf)
                refine .inr ?_
                (conv => whnf)
                refine ⟨fun hh => absurd hh (by decide), fun _ => ?_⟩
                (conv => whnf)
                refine ⟨(), [], trivial, ?_⟩
                (repeat' (first | exact True.intro | rfl | assumption | exact mc_ok rfl | exact mr_ok | exact fun _ => rfl | (refine And.intro ?_ ?_) | (intro _ _; rfl) | ((conv => whnf); (first | exact True.intro | (refine And.intro ?_ ?_)))))
                all_goals (show ((put2 g.ns p c).length : Int) = IntKind.i64.wrap ((ns.length : Int) + 1); rw [hln, w1, hl2, if_pos h5, if_neg h6]; omega)
            · intro h5
              have h5 : ¬ idxI ns p < 0 := of_decide_eq_false h5
              (conv => whnf)
              refine .inr ?_
              (conv => whnf)
              refine ⟨fun _ => ?_, fun hh => absurd hh (by decide)⟩
              (conv => whnf)
              refine ⟨({ g with M1 := M1, ns := ns, sr := sr }, c), [0, 1, 2, 3, 4], ⟨hgt, hc⟩, rfl, by (repeat' (first | exact True.intro | rfl | assumption | exact mc_ok rfl | exact mr_ok | exact fun _ => rfl | (refine And.intro ?_ ?_) | (intro _ _; rfl) | ((conv => whnf); (first | exact True.intro | (refine And.intro ?_ ?_))))), by (repeat' (first | exact True.intro | rfl | assumption | exact mc_ok rfl | exact mr_ok | exact fun _ => rfl | (refine And.intro ?_ ?_) | (intro _ _; rfl) | ((conv => whnf); (first | exact True.intro | (refine And.intro ?_ ?_))))), ?_⟩
              (conv => whnf)
              constructor
              · intro h6
                have h6 : idxI ns c < 0 := of_decide_eq_true h6
                (conv => whnf)
                refine .inr ?_
                (conv => whnf)
                refine ⟨fun hh => absurd hh (by decide), fun _ => ?_⟩
                (conv => whnf)
                refine ⟨(), [], trivial, ?_⟩
                (repeat' (first | exact True.intro | rfl | assumption | exact mc_ok rfl | exact mr_ok | exact fun _ => rfl | (refine And.intro ?_ ?_) | (intro _ _; rfl) | ((conv => whnf); (first | exact True.intro | (refine And.intro ?_ ?_)))))
                all_goals (show ((put2 g.ns p c).length : Int) = IntKind.i64.wrap ((ns.length : Int) + 1); rw [hln, w1, hl2, if_neg h5, if_pos h6]; omega)
              · intro h6
                have h6 : ¬ idxI ns c < 0 := of_decide_eq_false h6
                (conv => whnf)
                refine .inr ?_
                (conv => whnf)
                refine ⟨fun hh => absurd hh (by decide), fun _ => ?_⟩
                (conv => whnf)
                refine ⟨(), [], trivial, ?_⟩
                (repeat' (first | exact True.intro | rfl | assumption | exact mc_ok rfl | exact mr_ok | exact fun _ => rfl | (refine And.intro ?_ ?_) | (intro _ _; rfl) | ((conv => whnf); (first | exact True.intro | (refine And.intro ?_ ?_)))))
                all_goals (show ((put2 g.ns p c).length : Int) = (ns.length : Int); rw [hln, hl2, if_neg h5, if_neg h6]; omega)
          · (conv => whnf)
            constructor
            · intro h5
              have h5 : ¬ g.N < ((put2 g.ns p c).length : Int) := of_decide_eq_false h5
              (conv => whnf)
              constructor
              · intro h6
                have h6 : g.lk = g.E := of_decide_eq_true h6
                have hF := hno 7 M1 ns sr (by unfold addR; rw [if_pos hv, if_neg h2', if_neg (not_or.2 ⟨h3', h4⟩), if_pos (.inr h6)]) hs hsr hgu
                (conv => whnf)
                refine ⟨[some 1, some 2], _, _, hF, ?_⟩
                (repeat' (first | exact True.intro | rfl | assumption | exact mc_ok rfl | exact mr_ok | exact fun _ => rfl | (refine And.intro ?_ ?_) | (intro _ _; rfl) | ((conv => whnf); (first | exact True.intro | (refine And.intro ?_ ?_)))))
              · intro h6
                have h6 : ¬ g.lk = g.E := of_decide_eq_false h6
                have eR : addR g.N g.E g.lk g.ns p c = (true, 0) := by unfold addR; rw [if_pos hv, if_neg h2', if_neg (not_or.2 ⟨h3', h4⟩), if_neg (not_or.2 ⟨h5, h6⟩)]
                unfold nsA lkA at hQ
                rw [eR] at hQ
                have hQ : ∀ adr M1 M2 ns m C sr, SameE (addN g.ns p c) ns → sr ≤ g.sr + 1 → GU ⟨g.N, g.E, g.seed, adr, M1, M2, ns, m, C, g.lk + 1, sr⟩ →
                  R (.tup [.sb true, i64 0]) [some (grC 5 6 g.N g.E g.seed ns.length m (g.lk + 1) sr), none, none, some (mcO 4 M1), some (mrO M2), some (lsR 3 ns.length adr), some (ceR m C)] := hQ
                have hpu := hW.pu.same hs
                have hpu2 : PU (put2 ns p c) := (hpu.put hv2.1).put hv2.2
                obtain ⟨a1, b1, ka, kb, hab⟩ := nA_ok (ns := ns) h4
                have kv1 := validK_iff.1 hv2.1
                have kv2 := validK_iff.1 hv2.2
                have hksz : ∀ i, i < ns.length → (keyAt ns i).size ≤ 1000000 := fun i hi => Nat.le_trans (hgu.ks i hi) (by omega)
                have hksz1 : ∀ i, i < (putN ns p).length → (keyAt (putN ns p) i).size ≤ 1000000 := fun i hi => Nat.le_trans (validK_iff.1 ((hpu.put hv2.1).ks i hi)).2 (by omega)
                have hl1 : (putN ns p).length ≤ 9001 := by rw [putN_len]; split <;> omega
                have hl2' : (put2 ns p c).length ≤ 9002 := by unfold put2; rw [putN_len]; split <;> omega
                clear hR hno
                (conv => whnf)
                refine ⟨({ g with M1 := M1, ns := ns, sr := sr }, p), [0, 1, 2, 3, 4], ⟨hgt, by show 0 < p.size; omega, by show p.size ≤ 1000; omega, hksz, by show ns.length ≤ 10000; omega, hgu.h2⟩, rfl, by (repeat' (first | exact True.intro | rfl | assumption | exact mc_ok rfl | exact mr_ok | exact fun _ => rfl | (refine And.intro ?_ ?_) | (intro _ _; rfl) | ((conv => whnf); (first | exact True.intro | (refine And.intro ?_ ?_))))), by (repeat' (first | exact True.intro | rfl | assumption | exact mc_ok rfl | exact mr_ok | exact fun _ => rfl | (refine And.intro ?_ ?_) | (intro _ _; rfl) | ((conv => whnf); (first | exact True.intro | (refine And.intro ?_ ?_))))), fun adr1 N1 m1 C1 hg1 h21 => ?_⟩
                have hg1 : GT ⟨g.N, g.E, g.seed, adr1, N1, g.M2, putN ns p, m1, C1, g.lk, sr⟩ (putN ns p).length := hg1
                have h21 : 2 * (putN ns p).length ≤ m1 := h21
                (conv => whnf)
                refine ⟨(⟨g.N, g.E, g.seed, adr1, N1, g.M2, putN ns p, m1, C1, g.lk, sr⟩, c), [0, 5, 6, 3, 4], ⟨hg1, by show 0 < c.size; omega, by show c.size ≤ 1000; omega, hksz1, by show (putN ns p).length ≤ 10000; omega, h21⟩, rfl, by (repeat' (first | exact True.intro | rfl | assumption | exact mc_ok rfl | exact mr_ok | exact fun _ => rfl | (refine And.intro ?_ ?_) | (intro _ _; rfl) | ((conv => whnf); (first | exact True.intro | (refine And.intro ?_ ?_))))), by (repeat' (first | exact True.intro | rfl | assumption | exact mc_ok rfl | exact mr_ok | exact fun _ => rfl | (refine And.intro ?_ ?_) | (intro _ _; rfl) | ((conv => whnf); (first | exact True.intro | (refine And.intro ?_ ?_))))), fun adr2 N2 m2 C2 hg2 h22 => ?_⟩
                have hg2 : GT ⟨g.N, g.E, g.seed, adr2, N2, g.M2, put2 ns p c, m2, C2, g.lk, sr⟩ (put2 ns p c).length := hg2
                have h22 : 2 * (put2 ns p c).length ≤ m2 := h22
                have ip := putI_ok ns p
                have ic := putI_ok (putN ns p) c
                have ip2 : putI ns p < ((put2 ns p c).length : Int) := by unfold nA at a1; omega
                have ic2 : putI (putN ns p) c < ((put2 ns p c).length : Int) := by unfold nB at b1; omega
                have ea : 0 + (putI ns p).toNat = nA ns p := Nat.zero_add _
                have eb : 0 + (putI (putN ns p) c).toNat = nB ns p c := Nat.zero_add _
                obtain ⟨ndA, hMA, hkA⟩ := hg2.gi.nd a1
                have hMA : N2 (adr2 (nA ns p)) = some ndA := hMA
                obtain ⟨o1, id1, hrA⟩ := hg2.gi.rowsE a1 hMA false
                have hrA : RowIs g.M2 o1 id1 ndA.d (lsE false ((put2 ns p c).getD (nA ns p) ns0)) := hrA
                have hlen := nodup_le (hpu2.nd false _ a1) (hpu2.lt false _ a1)
                have hl1A := hrA.1
                (conv => whnf)
                refine ⟨ip.1, ip2, ?_⟩
                (conv => whnf)
                refine ⟨by show 0 + (putI ns p).toNat < (put2 ns p c).length; rw [ea]; exact a1, ?_⟩
                (conv => whnf)
                refine ⟨ip.1, ip2, ?_⟩
                (conv => whnf)
                refine ⟨by show 0 + (putI ns p).toNat < (put2 ns p c).length; rw [ea]; exact a1, ?_⟩
                (conv => whnf)
                refine ⟨ndL 4 ndA, by show (N2 (adr2 (0 + (putI ns p).toNat))).map (ndL 4) = _; rw [ea, hMA]; rfl, ?_⟩
                (conv => whnf)
                refine .inl ?_
                (conv => whnf)
                (repeat (first | refine And.intro rfl ?_ | fail))
                (conv => whnf)
                refine ⟨by decide, ?_⟩
                (conv => whnf)
                refine ⟨by show (ndA.d.2.1 + 1) * (8 + 1) ≤ 1000000000; omega, by rcases hrA.2 with q | ⟨_, _, _, _, q, _⟩; (rw [hl1A, q.1]; exact Nat.zero_le _); (rw [hl1A]; exact q), 4, appR (lsE false ((put2 ns p c).getD (nA ns p) ns0)) (nB ns p c), ?_⟩
                (conv => whnf)
                refine ⟨app_hold hrA (nB ns p c) 4, fun q hq => ?_, fun h => absurd h (by decide), fun _ bA cA CA hcA hCA hbA => ?_⟩
                · have := app_src (x := nB ns p c) hl1A q hq
                  rw [show ((nB ns p c : Nat) : Int) = putI (putN ns p) c by unfold nB; omega] at this
                  exact this
                have hbA := app_new (appOld hbA) hcA
                have hgi3 := hg2.gi.app (x := nB ns p c) a1 hMA false hbA hcA hCA
                obtain ⟨M3, hM3⟩ : ∃ M, M = setF g.M2 bA (some ((lsE false ((put2 ns p c).getD (nA ns p) ns0) ++ [nB ns p c]).map Int.ofNat, CA)) := ⟨_, rfl⟩
                obtain ⟨N3, hN3⟩ : ∃ M, M = setF N2 (adr2 (nA ns p)) (some (setD false ndA (some bA, ndA.d.2.1 + 1, cA))) := ⟨_, rfl⟩
                have hgi3 : GI adr2 N3 M3 (pushE false (put2 ns p c) (nA ns p) (nB ns p c)) := by rw [hM3, hN3]; exact hgi3
                refine ⟨fun q => (M3 q).map rwL, ⟨by rw [hM3]; exact app_row hl1A, fun q hq => (show (M3 q).map rwL = (g.M2 q).map rwL by rw [hM3, setF_ne hq])⟩, ?_⟩
                (conv => whnf)
                (repeat (first | refine And.intro rfl ?_ | fail))
                (conv => whnf)
                refine ⟨ndL 4 ndA, by show (N2 (adr2 (0 + (putI ns p).toNat))).map (ndL 4) = _; rw [ea, hMA]; rfl, ?_⟩
                (conv => whnf)
                refine ⟨fun q => (N3 q).map (ndL 4), ⟨by show (N3 (adr2 (0 + (putI ns p).toNat))).map (ndL 4) = some (ndL 4 (setD false ndA (some bA, ndA.d.2.1 + 1, cA))); rw [hN3, ea, setF_same]; rfl, fun q hq => (show (N3 q).map (ndL 4) = (N2 q).map (ndL 4) by rw [hN3, setF_ne (show q ≠ adr2 (nA ns p) from fun e => hq (by rw [e]; show _ = adr2 (0 + (putI ns p).toNat); rw [ea]))])⟩, ?_⟩
                have b3 : nB ns p c < (pushE false (put2 ns p c) (nA ns p) (nB ns p c)).length := by rw [pushE_len]; exact b1
                obtain ⟨ndB, hMB, hkB⟩ := hgi3.nd b3
                obtain ⟨o2, id2, hrB⟩ := hgi3.rowsE b3 hMB true
                rw [pushE_ls a1, if_neg (fun q => by cases q.2)] at hrB
                have hrB : RowIs M3 o2 id2 ndB.u (lsE true ((put2 ns p c).getD (nB ns p c) ns0)) := hrB
                have hlenB := nodup_le (hpu2.nd true _ b1) (hpu2.lt true _ b1)
                have hl1B := hrB.1
                (conv => whnf)
                refine ⟨ic.1, ic2, ?_⟩
                (conv => whnf)
                refine ⟨by show 0 + (putI (putN ns p) c).toNat < (put2 ns p c).length; rw [eb]; exact b1, ?_⟩
                (conv => whnf)
                refine ⟨ic.1, ic2, ?_⟩
                (conv => whnf)
                refine ⟨by show 0 + (putI (putN ns p) c).toNat < (put2 ns p c).length; rw [eb]; exact b1, ?_⟩
                (conv => whnf)
                refine ⟨ndL 4 ndB, by show (N3 (adr2 (0 + (putI (putN ns p) c).toNat))).map (ndL 4) = _; rw [eb, hMB]; rfl, ?_⟩
                (conv => whnf)
                refine .inl ?_
                (conv => whnf)
                (repeat (first | refine And.intro rfl ?_ | fail))
                (conv => whnf)
                refine ⟨by decide, ?_⟩
                (conv => whnf)
                refine ⟨by show (ndB.u.2.1 + 1) * (8 + 1) ≤ 1000000000; omega, by rcases hrB.2 with q | ⟨_, _, _, _, q, _⟩; (rw [hl1B, q.1]; exact Nat.zero_le _); (rw [hl1B]; exact q), 4, appR (lsE true ((put2 ns p c).getD (nB ns p c) ns0)) (nA ns p), ?_⟩
                (conv => whnf)
                refine ⟨app_hold hrB (nA ns p) 4, fun q hq => ?_, fun h => absurd h (by decide), fun _ bB cB CB hcB hCB hbB => ?_⟩
                · have := app_src (x := nA ns p) hl1B q hq
                  rw [show ((nA ns p : Nat) : Int) = putI ns p by unfold nA; omega] at this
                  exact this
                have hbB := app_new (appOld hbB) hcB
                have hgi4 := hgi3.app (x := nA ns p) b3 hMB true hbB hcB hCB
                rw [pushE_ls a1, if_neg (fun q => by cases q.2)] at hgi4
                obtain ⟨M4, hM4⟩ : ∃ M, M = setF M3 bB (some ((lsE true ((put2 ns p c).getD (nB ns p c) ns0) ++ [nA ns p]).map Int.ofNat, CB)) := ⟨_, rfl⟩
                obtain ⟨N4, hN4⟩ : ∃ M, M = setF N3 (adr2 (nB ns p c)) (some (setD true ndB (some bB, ndB.u.2.1 + 1, cB))) := ⟨_, rfl⟩
                have hgi4 : GI adr2 N4 M4 (addN ns p c) := by rw [hM4, hN4]; exact hgi4
                refine ⟨fun q => (M4 q).map rwL, ⟨by rw [hM4]; exact app_row hl1B, fun q hq => (show (M4 q).map rwL = (M3 q).map rwL by rw [hM4, setF_ne hq])⟩, ?_⟩
                (conv => whnf)
                (repeat (first | refine And.intro rfl ?_ | fail))
                (conv => whnf)
                refine ⟨ndL 4 ndB, by show (N3 (adr2 (0 + (putI (putN ns p) c).toNat))).map (ndL 4) = _; rw [eb, hMB]; rfl, ?_⟩
                (conv => whnf)
                refine ⟨fun q => (N4 q).map (ndL 4), ⟨by show (N4 (adr2 (0 + (putI (putN ns p) c).toNat))).map (ndL 4) = some (ndL 4 (setD true ndB (some bB, ndB.u.2.1 + 1, cB))); rw [hN4, eb, setF_same]; rfl, fun q hq => (show (N4 q).map (ndL 4) = (N3 q).map (ndL 4) by rw [hN4, setF_ne (show q ≠ adr2 (nB ns p c) from fun e => hq (by rw [e]; show _ = adr2 (0 + (putI (putN ns p) c).toNat); rw [eb]))])⟩, ?_⟩
                have hpu4 : PU (addN ns p c) := hpu.add hv2.1 hv2.2 h4 (by rw [← h2]; exact hs.edge hW.pu.dk p c)
                have hln4 : (addN ns p c).length = (put2 ns p c).length := addN_len
                have hG4 : GU ⟨g.N, g.E, g.seed, adr2, N4, M4, addN ns p c, m2, C2, g.lk + 1, sr⟩ := by
                  refine ⟨⟨?_, hgi4, hg2.seed, hg2.m8, hg2.mle, ?_, hg2.ev⟩, hpu4.ei (by omega), hN, hgu.sr, fun j hj => ?_, fun j hj => (validK_iff.1 (hpu4.ks j hj)).2, ?_⟩
                  · show HT g.seed (addN ns p c) (addN ns p c).length m2 C2
                    rw [hln4]
                    exact hg2.ht.congr (by omega) (fun i _ => addN_key) fun i hi => (validK_iff.1 (hpu4.ks i hi)).1
                  · show (addN ns p c).length ≤ 50000
                    omega
                  · show ((addN ns p c).getD j ns0).mark ≤ sr
                    rw [addN_mark]
                    by_cases q : j < ns.length
                    · exact hgu.mks j q
                    · rw [List.getD_eq_getElem?_getD, List.getElem?_eq_none (by omega)]
                      exact hgu.sr.1
                  · show 2 * (addN ns p c).length ≤ m2
                    omega
                have wl : IntKind.i64.wrap (g.lk + 1) = g.lk + 1 := wrap_id (by have := hW.lk; omega) (by have := hW.lk; omega)
                have hRR := hQ adr2 N4 M4 (addN ns p c) m2 C2 sr (hs.add hW.pu hv2.1) hsr hG4
                (conv => whnf)
                refine ⟨[some 7, some 8], _, _, hRR, ?_⟩
                (repeat' (first | exact True.intro | rfl | assumption | exact mc_ok rfl | exact mr_ok | exact fun _ => rfl | (refine And.intro ?_ ?_) | (intro _ _; rfl) | ((conv => whnf); (first | exact True.intro | (refine And.intro ?_ ?_)))))
                all_goals first
                  | exact wl.symm
                  | exact hln4
                  | exact (congrArg (fun n : Nat => (n : Int)) hln4)
            · intro h5
              have h5 : g.N < ((put2 g.ns p c).length : Int) := of_decide_eq_true h5
              have hF := hno 7 M1 ns sr (by unfold addR; rw [if_pos hv, if_neg h2', if_neg (not_or.2 ⟨h3', h4⟩), if_pos (.inl h5)]) hs hsr hgu
              (conv => whnf)
              refine ⟨[some 1, some 2], _, _, hF, ?_⟩
              (repeat' (first | exact True.intro | rfl | assumption | exact mc_ok rfl | exact mr_ok | exact fun _ => rfl | (refine And.intro ?_ ?_) | (intro _ _; rfl) | ((conv => whnf); (first | exact True.intro | (refine And.intro ?_ ?_)))))
      · intro h3
        have h3 : (reachR g.ns c p 65536).1 = true := h3
        have hF := hno 13 M1 ns sr (by unfold addR; rw [if_pos hv, if_neg h2', if_pos (.inl h3)]) hs hsr hgu
        (conv => whnf)
        refine ⟨[some 1, some 2], _, _, hF, ?_⟩
        (repeat' (first | exact True.intro | rfl | assumption | exact mc_ok rfl | exact mr_ok | exact fun _ => rfl | (refine And.intro ?_ ?_) | (intro _ _; rfl) | ((conv => whnf); (first | exact True.intro | (refine And.intro ?_ ?_)))))
  · intro h1
    have hv : ¬ (validK p && validK c) = true := fun q => by
      rw [chkE_yes q] at h1
      exact absurd h1 (by decide)
    have hF := hno 2 g.M1 g.ns g.sr (by unfold addR; rw [if_neg hv]) (SameE.refl _) (by omega) hU
    (conv => whnf)
    refine ⟨[some 1, some 2], _, _, hF, ?_⟩
    (repeat' (first | exact True.intro | rfl | assumption | exact mc_ok rfl | exact mr_ok | exact fun _ => rfl | (refine And.intro ?_ ?_) | (intro _ _; rfl) | ((conv => whnf); (first | exact True.intro | (refine And.intro ?_ ?_)))))
    all_goals exact (chkE_no hv).symm
end Go.Proofs.Ytmgcpfljhcahoaa
