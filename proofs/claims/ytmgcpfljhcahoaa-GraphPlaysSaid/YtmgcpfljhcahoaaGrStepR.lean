/- What the law's function step computes. -/
import Derived.Test.YtmgcpfljhcahoaaGrLaw2R
import Derived.Test.YtmgcpfljhcahoaaGrRef3RR
import Derived.Test.YtmgcpfljhcahoaaGrLaw1SR
import Derived.Test.YtmgcpfljhcahoaaGrEdgesR
import Derived.Test.YtmgcpfljhcahoaaGrNamedR
namespace Go.Proofs.Ytmgcpfljhcahoaa
open Go Go.RowKit Sy Tb Gr
set_option maxRecDepth 100000
set_option maxHeartbeats 8000000

def actC (w : Int) (p c : Bs) (n : Int) : List V := [i64 w, .str p, .str c, i64 n]
structure SgX where
  N : Int
  M : Int
  E : List Ed
  s : Int
  g : GG
  w : Int
  p : Bs
  c : Bs
  n : Int
def sP (s : Bs) : Prop := s.size ≤ 300
theorem conSt : ConOk Try.prog (conOf [(39, SRAdd.T), (18, SLAdd.T), (54, SRRem.T), (33, SLRem.T), (15, SRReaches.T), (16, SLReach.T), (34, SCopy.T), (21, SAdd.T), (55, SRemove.T)]) :=
  conOf_cons (LSpec.call SRAdd_nt SRAdd_ok) (conOf_cons (LSpec.call SLAdd_nt SLAdd_ok) (conOf_cons (LSpec.call SRRem_nt SRRem_ok) (conOf_cons (LSpec.call SLRem_nt SLRem_ok) (conOf_cons (LSpec.call SRReaches_nt SRReaches_ok) (conOf_cons (LSpec.call SLReach_nt SLReach_ok) (conOf_cons (LSpec.call SCopy_nt SCopy_ok) (conOf_cons (LSpec.call SAdd_nt SAdd_ok) (conOf_cons (LSpec.call SRemove_nt SRemove_ok) conOf_nil))))))))
def SGStep : LSpec where
  X := SgX
  k := 6
  pre x := MG x.N x.M x.E x.s x.g ∧ x.E.length ≤ 100 ∧ x.s ≤ 100000 ∧ sP x.p ∧ sP x.c ∧ Ac x.E
  args x θ := [.ptr (θ 0) 0, rgV (θ 5) x.N x.M x.E, .agg (actC x.w x.p x.c x.n)]
  objs x θ := x.g.objs θ ++ [edR x.E]
  out x θ R := ∀ g' E', MG x.N x.M E' (x.s + 1) g' → E'.length ≤ x.E.length + 1 → Ac E' → R (.tup [.ptr (θ 6) 0, rgV (θ 11) x.N x.M E', .sb true]) ([none, none, none, none, none, none] ++ g'.all (fun i => θ (i + 6)) ++ [some (edR E')])
theorem SGStep_nt : SGStep.Nt := ⟨fun _ _ => rfl, by unfold SGStep GG.objs; (intros; simp only [ren_all] at *; try assumption), fun x θ R h g' E' h1 h2 h3 => by
  have h := h g' E' h1 h2 h3
  show R (.tup [.ptr (θ 6) 0, rgV (θ 11) x.N x.M E', .sb true]) (([none, none, none, none, none, none] ++ g'.all (fun i => i + 6) ++ [some (edR E')]).map (Option.map (SObj.ren θ)))
  unfold GG.all
  simp only [List.map_append, List.map_cons, List.map_nil, Option.map_some, Option.map_none, grC_ren, lsR_ren, ceR_ren, mcO_ren, mrO_ren, edR_ren]
  exact h⟩
theorem SGStep_ok : SGStep.Ok Try.prog 32 := by
  refine LSpec.of_body noGo mixed conSt Try.func32 rfl (by kernel_rfl) fun ⟨N, M, E, s, g, w, p, c, n⟩ R hX hR => ?_
  have hG : MG N M E s g := hX.1
  have hE : E.length ≤ 100 := hX.2.1
  have hs : s ≤ 100000 := hX.2.2.1
  have hp : p.size ≤ 300 := hX.2.2.2.1
  have hc : c.size ≤ 300 := hX.2.2.2.2.1
  have hac : Ac E := hX.2.2.2.2.2
  have hQ : ∀ g' E', MG N M E' (s + 1) g' → E'.length ≤ E.length + 1 → Ac E' → R (.tup [.ptr 6 0, rgV 11 N M E', .sb true]) ([none, none, none, none, none, none] ++ g'.all (fun i => i + 6) ++ [some (edR E')]) := hR
  clear hX hR
  have hW := hG.gw (by omega) (by omega)
  show bodyP _ _ _ _ _ [.ptr 0 0, rgV 5 N M E, .agg (actC w p c n)] ⟨6, Tr.ofL 0 (g.objs _root_.id ++ [edR E]) .leaf⟩ _
  (conv => whnf)
  constructor
  · intro _
    (conv => whnf)
    refine ⟨((N, M, E), p, c), [5], by show E.length ≤ 9000; omega, rfl, by (repeat' (first | exact True.intro | rfl | assumption | exact mc_ok rfl | exact mr_ok | exact fun _ => rfl | (refine And.intro ?_ ?_) | (intro _ _; rfl) | ((conv => whnf); (first | exact True.intro | (refine And.intro ?_ ?_))))), by (repeat' (first | exact True.intro | rfl | assumption | exact mc_ok rfl | exact mr_ok | exact fun _ => rfl | (refine And.intro ?_ ?_) | (intro _ _; rfl) | ((conv => whnf); (first | exact True.intro | (refine And.intro ?_ ?_))))), ?_⟩
    (conv => whnf)
    refine ⟨(g, p, c, rAddR N M E p c), [0, 1, 2, 3, 4], ⟨hW, by show p.size ≤ 1000000; omega, by show c.size ≤ 1000000; omega, hG.addR (by omega) p c⟩, rfl, by (repeat' (first | exact True.intro | rfl | assumption | exact mc_ok rfl | exact mr_ok | exact fun _ => rfl | (refine And.intro ?_ ?_) | (intro _ _; rfl) | ((conv => whnf); (first | exact True.intro | (refine And.intro ?_ ?_))))), by (repeat' (first | exact True.intro | rfl | assumption | exact mc_ok rfl | exact mr_ok | exact fun _ => rfl | (refine And.intro ?_ ?_) | (intro _ _; rfl) | ((conv => whnf); (first | exact True.intro | (refine And.intro ?_ ?_))))), fun adr M1 M2 ns m C sr k1 k2 k3 => ?_⟩
    have hG' := hG.add (by omega) k1 k2 k3
    have hF := hQ _ (rAddE N M E p c) hG' (rAddE_len N M E p c) (hac.addE (by omega) p c)
    (conv => whnf)
    (repeat (first | refine And.intro rfl ?_ | fail))
    (conv => whnf)
    refine ⟨[some 0, some 11, some 12, some 3, some 4, some 9], _, _, hF, ?_⟩
    (repeat' (first | exact True.intro | rfl | assumption | exact mc_ok rfl | exact mr_ok | exact fun _ => rfl | (refine And.intro ?_ ?_) | (intro _ _; rfl) | ((conv => whnf); (first | exact True.intro | (refine And.intro ?_ ?_)))))
  intro _
  (conv => whnf)
  constructor
  · intro _
    (conv => whnf)
    refine ⟨((N, M, E), p, c), [5], ⟨by show E.length ≤ 9000; omega, hG.rel.srt⟩, rfl, by (repeat' (first | exact True.intro | rfl | assumption | exact mc_ok rfl | exact mr_ok | exact fun _ => rfl | (refine And.intro ?_ ?_) | (intro _ _; rfl) | ((conv => whnf); (first | exact True.intro | (refine And.intro ?_ ?_))))), by (repeat' (first | exact True.intro | rfl | assumption | exact mc_ok rfl | exact mr_ok | exact fun _ => rfl | (refine And.intro ?_ ?_) | (intro _ _; rfl) | ((conv => whnf); (first | exact True.intro | (refine And.intro ?_ ?_))))), ?_⟩
    (conv => whnf)
    refine ⟨(g, p, c, rRemR E p c), [0, 1, 2, 3, 4], ⟨hW, by show p.size ≤ 1000000; omega, by show c.size ≤ 1000000; omega, hG.remR p c⟩, rfl, by (repeat' (first | exact True.intro | rfl | assumption | exact mc_ok rfl | exact mr_ok | exact fun _ => rfl | (refine And.intro ?_ ?_) | (intro _ _; rfl) | ((conv => whnf); (first | exact True.intro | (refine And.intro ?_ ?_))))), by (repeat' (first | exact True.intro | rfl | assumption | exact mc_ok rfl | exact mr_ok | exact fun _ => rfl | (refine And.intro ?_ ?_) | (intro _ _; rfl) | ((conv => whnf); (first | exact True.intro | (refine And.intro ?_ ?_))))), fun adr M1 M2 C k3 => ?_⟩
    have hG' := hG.rem k3
    have hF := hQ _ (rRemD E p c) (hG'.up' (by omega)) (Nat.le_succ_of_le (rRemD_len p c)) (hac.sub rRemD_sub)
    (conv => whnf)
    (repeat (first | refine And.intro rfl ?_ | fail))
    (conv => whnf)
    refine ⟨[some 0, some 11, some 12, some 3, some 4, some 9], _, _, hF, ?_⟩
    (repeat' (first | exact True.intro | rfl | assumption | exact mc_ok rfl | exact mr_ok | exact fun _ => rfl | (refine And.intro ?_ ?_) | (intro _ _; rfl) | ((conv => whnf); (first | exact True.intro | (refine And.intro ?_ ?_)))))
  intro _
  (conv => whnf)
  constructor
  · intro _
    (conv => whnf)
    refine ⟨((N, M, E), p, c, n), [5], by show E.length ≤ 10000; omega, rfl, by (repeat' (first | exact True.intro | rfl | assumption | exact mc_ok rfl | exact mr_ok | exact fun _ => rfl | (refine And.intro ?_ ?_) | (intro _ _; rfl) | ((conv => whnf); (first | exact True.intro | (refine And.intro ?_ ?_))))), by (repeat' (first | exact True.intro | rfl | assumption | exact mc_ok rfl | exact mr_ok | exact fun _ => rfl | (refine And.intro ?_ ?_) | (intro _ _; rfl) | ((conv => whnf); (first | exact True.intro | (refine And.intro ?_ ?_))))), ?_⟩
    (conv => whnf)
    refine ⟨(g, p, c, n, rReach E p c n), [0, 1, 2, 3, 4], ⟨⟨hG.gu, by have h1 := hG.srb; show g.sr < 1000000000; omega⟩, by show p.size ≤ 1000000; omega, by show c.size ≤ 1000000; omega, hG.reach p c n⟩, rfl, by (repeat' (first | exact True.intro | rfl | assumption | exact mc_ok rfl | exact mr_ok | exact fun _ => rfl | (refine And.intro ?_ ?_) | (intro _ _; rfl) | ((conv => whnf); (first | exact True.intro | (refine And.intro ?_ ?_))))), by (repeat' (first | exact True.intro | rfl | assumption | exact mc_ok rfl | exact mr_ok | exact fun _ => rfl | (refine And.intro ?_ ?_) | (intro _ _; rfl) | ((conv => whnf); (first | exact True.intro | (refine And.intro ?_ ?_))))), fun M1 ns sr k1 k2 k3 => ?_⟩
    have hG' := hG.mark k1 k2 k3
    have hF := hQ _ E hG' (Nat.le_succ _) hac
    (conv => whnf)
    (repeat (first | refine And.intro rfl ?_ | fail))
    (conv => whnf)
    refine ⟨[some 0, some 1, some 2, some 3, some 4, some 5], _, _, hF, ?_⟩
    (repeat' (first | exact True.intro | rfl | assumption | exact mc_ok rfl | exact mr_ok | exact fun _ => rfl | (refine And.intro ?_ ?_) | (intro _ _; rfl) | ((conv => whnf); (first | exact True.intro | (refine And.intro ?_ ?_)))))
  intro _
  (conv => whnf)
  refine ⟨g, [0, 1, 2, 3, 4], hG.gu, rfl, by (repeat' (first | exact True.intro | rfl | assumption | exact mc_ok rfl | exact mr_ok | exact fun _ => rfl | (refine And.intro ?_ ?_) | (intro _ _; rfl) | ((conv => whnf); (first | exact True.intro | (refine And.intro ?_ ?_))))), by (repeat' (first | exact True.intro | rfl | assumption | exact mc_ok rfl | exact mr_ok | exact fun _ => rfl | (refine And.intro ?_ ?_) | (intro _ _; rfl) | ((conv => whnf); (first | exact True.intro | (refine And.intro ?_ ?_))))), fun adr M1 M2 k3 => ?_⟩
  have hG' := hG.copy k3
  have hF := hQ _ E (hG'.up' (by omega)) (Nat.le_succ _) hac
  (conv => whnf)
  refine ⟨(g, ⟨#[97]⟩, ⟨#[111, 116, 104, 101, 114]⟩), [0, 1, 2, 3, 4], ⟨hW, show (ByteArray.mk #[97]).size ≤ 1000000 by decide, show (ByteArray.mk #[111, 116, 104, 101, 114]).size ≤ 1000000 by decide⟩, rfl, by (repeat' (first | exact True.intro | rfl | assumption | exact mc_ok rfl | exact mr_ok | exact fun _ => rfl | (refine And.intro ?_ ?_) | (intro _ _; rfl) | ((conv => whnf); (first | exact True.intro | (refine And.intro ?_ ?_))))), by (repeat' (first | exact True.intro | rfl | assumption | exact mc_ok rfl | exact mr_ok | exact fun _ => rfl | (refine And.intro ?_ ?_) | (intro _ _; rfl) | ((conv => whnf); (first | exact True.intro | (refine And.intro ?_ ?_))))), fun adr1 N1 N2 ns1 m1 C1 sr1 q1 q2 q3 => ?_⟩
  have hG1 := hG.add (by omega) q1 q2 q3
  have hl1 := rAddE_len N M E ⟨#[97]⟩ ⟨#[111, 116, 104, 101, 114]⟩
  (conv => whnf)
  refine ⟨(⟨g.N, g.E, g.seed, adr1, N1, N2, ns1, m1, C1, lkA g.N g.E g.lk g.ns ⟨#[97]⟩ ⟨#[111, 116, 104, 101, 114]⟩, sr1⟩, ⟨#[97]⟩, ⟨#[98]⟩), [0, 14, 15, 3, 4], ⟨hG1.gw (Nat.le_trans hl1 (by omega)) (by omega), show (ByteArray.mk #[97]).size ≤ 1000000 by decide, show (ByteArray.mk #[98]).size ≤ 1000000 by decide⟩, rfl, by (repeat' (first | exact True.intro | rfl | assumption | exact mc_ok rfl | exact mr_ok | exact fun _ => rfl | (refine And.intro ?_ ?_) | (intro _ _; rfl) | ((conv => whnf); (first | exact True.intro | (refine And.intro ?_ ?_))))), by (repeat' (first | exact True.intro | rfl | assumption | exact mc_ok rfl | exact mr_ok | exact fun _ => rfl | (refine And.intro ?_ ?_) | (intro _ _; rfl) | ((conv => whnf); (first | exact True.intro | (refine And.intro ?_ ?_))))), fun adr2 P1 P2 C2 r3 => ?_⟩
  have hG2 := hG1.rem r3
  have hl2 := rRemD_len (E := rAddE N M E ⟨#[97]⟩ ⟨#[111, 116, 104, 101, 114]⟩) ⟨#[97]⟩ ⟨#[98]⟩
  (conv => whnf)
  refine ⟨(⟨g.N, g.E, g.seed, adr2, P1, P2, nsR ns1 ⟨#[97]⟩ ⟨#[98]⟩, m1, C2, lkR (lkA g.N g.E g.lk g.ns ⟨#[97]⟩ ⟨#[111, 116, 104, 101, 114]⟩) ns1 ⟨#[97]⟩ ⟨#[98]⟩, sr1⟩, ⟨#[111, 116, 104, 101, 114]⟩, ⟨#[98]⟩), [0, 16, 17, 3, 4], ⟨hG2.gw (Nat.le_trans hl2 (Nat.le_trans hl1 (by omega))) (by omega), show (ByteArray.mk #[111, 116, 104, 101, 114]).size ≤ 1000000 by decide, show (ByteArray.mk #[98]).size ≤ 1000000 by decide⟩, rfl, by (repeat' (first | exact True.intro | rfl | assumption | exact mc_ok rfl | exact mr_ok | exact fun _ => rfl | (refine And.intro ?_ ?_) | (intro _ _; rfl) | ((conv => whnf); (first | exact True.intro | (refine And.intro ?_ ?_))))), by (repeat' (first | exact True.intro | rfl | assumption | exact mc_ok rfl | exact mr_ok | exact fun _ => rfl | (refine And.intro ?_ ?_) | (intro _ _; rfl) | ((conv => whnf); (first | exact True.intro | (refine And.intro ?_ ?_))))), fun adr3 S1 S2 ns3 m3 C3 sr3 _ _ _ => ?_⟩
  (conv => whnf)
  (repeat (first | refine And.intro rfl ?_ | fail))
  (conv => whnf)
  refine ⟨[some 9, some 10, some 11, some 12, some 13, some 5], _, _, hF, ?_⟩
  (repeat' (first | exact True.intro | rfl | assumption | exact mc_ok rfl | exact mr_ok | exact fun _ => rfl | (refine And.intro ?_ ?_) | (intro _ _; rfl) | ((conv => whnf); (first | exact True.intro | (refine And.intro ?_ ?_)))))
end Go.Proofs.Ytmgcpfljhcahoaa
