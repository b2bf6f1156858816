/- What the law's function is computes. -/
import Derived.Test.YtmgcpfljhcahoaaGrStepR
namespace Go.Proofs.Ytmgcpfljhcahoaa
open Go Go.RowKit Sy Tb Gr
set_option maxRecDepth 100000
set_option maxHeartbeats 20000000

structure IgX where
  N : Int
  M : Int
  E : List Ed
  s : Int
  g : GG
  a : Bs
  b : Bs
def chd : Bs := ⟨#[99, 104, 97, 110, 103, 101, 100]⟩
/-- A list of which the first i strings are spoilt. -/
def chR (L : List Bs) (i : Nat) : SObj := .row L.length (fun j => [.str (if j < i then chd else L.getD j eS)]) 9 1
def SRNodesL : LSpec where
  X := (Int × Int × List Ed) × List Bs
  k := 1
  pre x := x.1.2.2.length ≤ 10000 ∧ sortK (ndsE x.1.2.2) = x.2
  args x θ := [rgV (θ 0) x.1.1 x.1.2.1 x.1.2.2]
  objs x _ := [edR x.1.2.2]
  out x θ R := R (.sl (θ 1) 0 1 x.2.length false) [some (edR x.1.2.2), some (stR x.2)]
theorem SRNodesL_nt : SRNodesL.Nt := ⟨fun _ _ => rfl, fun _ _ => rfl, fun _ _ _ h => h⟩
theorem SRNodesL_ok : SRNodesL.Ok Try.prog 35 := fun ⟨⟨N, M, E⟩, L⟩ R ⟨h1, h2⟩ hR => SRNodes_ok (N, M, E) R h1 (by have h2 : sortK (ndsE E) = L := h2; subst h2; exact hR)
theorem strD_mem {l : List Bs} {i : Nat} (h : i < l.length) : l.getD i eS ∈ l := by
  rw [List.getD_eq_getElem?_getD, List.getElem?_eq_getElem h]
  exact List.getElem_mem h
theorem partV_to {P : Program} {ty : TypeId} {l l' : List V} {o : Nat} {K : V → Prop} (e : l = l') (h : partV P ty l' o K) : partV P ty l o K := by subst e; exact h
theorem conIs : ConOk Try.prog (conOf [(35, SRNodesL.T), (20, SLLen.T), (23, SNodesL.T), (25, SStrs.T), (22, SEdgesG.T), (24, SSame.T), (30, SHas.T), (36, SRFind.T), (27, (SEndsL false).T), (28, (SEndsL true).T), (37, SRChildren.T), (38, SRParents.T)]) :=
  conOf_cons (LSpec.call SRNodesL_nt SRNodesL_ok) (conOf_cons (LSpec.call SLLen_nt SLLen_ok) (conOf_cons (LSpec.call SNodesL_nt SNodesL_ok) (conOf_cons (LSpec.call SStrs_nt SStrs_ok) (conOf_cons (LSpec.call SEdgesG_nt SEdgesG_ok) (conOf_cons (LSpec.call SSame_nt SSame_ok) (conOf_cons (LSpec.call SHas_nt SHas_ok) (conOf_cons (LSpec.call SRFind_nt SRFind_ok) (conOf_cons (LSpec.call (SEndsL_nt false) SChL_ok (fun _ => rfl) (show 5 ≤ 60 by decide)) (conOf_cons (LSpec.call (SEndsL_nt true) SPaL_ok (fun _ => rfl) (show 5 ≤ 60 by decide)) (conOf_cons (LSpec.call SRChildren_nt SRChildren_ok) (conOf_cons (LSpec.call SRParents_nt SRParents_ok) conOf_nil)))))))))))
def SGIs : LSpec where
  X := IgX
  k := 6
  pre x := MG x.N x.M x.E x.s x.g ∧ x.E.length ≤ 200 ∧ x.s ≤ 100000 ∧ sP x.a ∧ sP x.b ∧ Ac x.E
  args x θ := [.ptr (θ 0) 0, rgV (θ 5) x.N x.M x.E, .str x.a, .str x.b]
  objs x θ := x.g.objs θ ++ [edR x.E]
  out x θ R := R (.sb true) (x.g.all θ ++ [some (edR x.E)])
theorem SGIs_nt : SGIs.Nt := ⟨fun _ _ => rfl, by unfold SGIs GG.objs; (intros; simp only [ren_all] at *; try assumption), by unfold SGIs GG.all; (intros; simp only [ren_all] at *; try assumption)⟩
theorem SGIs_ok : SGIs.Ok Try.prog 12 := by
  refine LSpec.of_body noGo mixed conIs Try.func12 rfl (by kernel_rfl) fun ⟨N, M, E, s, g, a, b⟩ R hX hR => ?_
  have hG : MG N M E s g := hX.1
  have hE : E.length ≤ 200 := hX.2.1
  have hs : s ≤ 100000 := hX.2.2.1
  have ha : a.size ≤ 300 := hX.2.2.2.1
  have hb : b.size ≤ 300 := hX.2.2.2.2.1
  have hac : Ac E := hX.2.2.2.2.2
  have hQ : R (.sb true) (g.all _root_.id ++ [some (edR E)]) := hR
  clear hX hR
  obtain ⟨NL, hNL⟩ : ∃ NL, NL = sortK (ndsE E) := ⟨_, rfl⟩
  have hnl : NL.length ≤ 400 := by rw [hNL, sortK_len]; have := nds_len E; omega
  have hnv : ∀ x ∈ NL, x.size ≤ 300 := fun x hx => Nat.le_trans (validK_iff.1 (nodes_valid hG.valid (by rw [← hNL]; exact hx))).2 (by omega)
  have hlen : (g.ns.length : Int) = (NL.length : Int) := by rw [hNL, sortK_len, hG.rel.len hG.pu]
  have hdn : ∀ i, i < g.ns.length → (g.ns.getD i ns0).dn.length ≤ 1000000 := fun i hi => Nat.le_trans (hG.gu.ei.len false i hi) (by omega)
  have hhas : ∀ x y : Bs, x.size ≤ 300 → y.size ≤ 300 → SHas.pre (g, x, y) := fun x y hx hy => ⟨hG.gu.gt, hG.gu.n1, by show x.size ≤ 1000000; omega, by show y.size ≤ 1000000; omega, hdn⟩
  show bodyP _ _ _ _ _ [.ptr 0 0, rgV 5 N M E, .str a, .str b] ⟨6, Tr.ofL 0 (g.objs _root_.id ++ [edR E]) .leaf⟩ _
  (conv => whnf)
  refine ⟨((N, M, E), NL), [5], ⟨by show E.length ≤ 10000; omega, hNL.symm⟩, rfl, by (repeat' (first | exact True.intro | rfl | assumption | exact mc_ok rfl | exact mr_ok | exact fun _ => rfl | (refine And.intro ?_ ?_) | (intro _ _; rfl) | ((conv => whnf); (first | exact True.intro | (refine And.intro ?_ ?_))))), by (repeat' (first | exact True.intro | rfl | assumption | exact mc_ok rfl | exact mr_ok | exact fun _ => rfl | (refine And.intro ?_ ?_) | (intro _ _; rfl) | ((conv => whnf); (first | exact True.intro | (refine And.intro ?_ ?_))))), ?_⟩
  (conv => whnf)
  refine ⟨(g, (NL.length : Int), (E.length : Int)), [0, 1, 2, 3, 4], ⟨hG.gu.n1, hlen, hG.lk⟩, rfl, by (repeat' (first | exact True.intro | rfl | assumption | exact mc_ok rfl | exact mr_ok | exact fun _ => rfl | (refine And.intro ?_ ?_) | (intro _ _; rfl) | ((conv => whnf); (first | exact True.intro | (refine And.intro ?_ ?_))))), by (repeat' (first | exact True.intro | rfl | assumption | exact mc_ok rfl | exact mr_ok | exact fun _ => rfl | (refine And.intro ?_ ?_) | (intro _ _; rfl) | ((conv => whnf); (first | exact True.intro | (refine And.intro ?_ ?_))))), ?_⟩
  (conv => whnf)
  refine ⟨fun _ => ?_, fun hh => Bool.noConfusion (show (!true) = true from hh)⟩
  (conv => whnf)
  refine ⟨(g, NL), [0, 1, 2, 3, 4], ⟨⟨hG.gu.gt, hG.gu.n1⟩, by show sortK (keyL g.ns) = NL; rw [hNL]; exact hG.nodes⟩, rfl, by (repeat' (first | exact True.intro | rfl | assumption | exact mc_ok rfl | exact mr_ok | exact fun _ => rfl | (refine And.intro ?_ ?_) | (intro _ _; rfl) | ((conv => whnf); (first | exact True.intro | (refine And.intro ?_ ?_))))), by (repeat' (first | exact True.intro | rfl | assumption | exact mc_ok rfl | exact mr_ok | exact fun _ => rfl | (refine And.intro ?_ ?_) | (intro _ _; rfl) | ((conv => whnf); (first | exact True.intro | (refine And.intro ?_ ?_))))), ?_⟩
  (conv => whnf)
  refine ⟨NL, [8, 7], by show NL.length ≤ 1000000; omega, rfl, by (repeat' (first | exact True.intro | rfl | assumption | exact mc_ok rfl | exact mr_ok | exact fun _ => rfl | (refine And.intro ?_ ?_) | (intro _ _; rfl) | ((conv => whnf); (first | exact True.intro | (refine And.intro ?_ ?_))))), by (repeat' (first | exact True.intro | rfl | assumption | exact mc_ok rfl | exact mr_ok | exact fun _ => rfl | (refine And.intro ?_ ?_) | (intro _ _; rfl) | ((conv => whnf); (first | exact True.intro | (refine And.intro ?_ ?_))))), ?_⟩
  (conv => whnf)
  refine ⟨fun _ => ?_, fun hh => Bool.noConfusion (show (!true) = true from hh)⟩
  (conv => whnf)
  refine ⟨(g, E), [0, 1, 2, 3, 4], ⟨⟨hG.gu.gt, hG.gu.n1⟩, hG.pu, hG.rel, by show E.length ≤ 70000; omega⟩, rfl, by (repeat' (first | exact True.intro | rfl | assumption | exact mc_ok rfl | exact mr_ok | exact fun _ => rfl | (refine And.intro ?_ ?_) | (intro _ _; rfl) | ((conv => whnf); (first | exact True.intro | (refine And.intro ?_ ?_))))), by (repeat' (first | exact True.intro | rfl | assumption | exact mc_ok rfl | exact mr_ok | exact fun _ => rfl | (refine And.intro ?_ ?_) | (intro _ _; rfl) | ((conv => whnf); (first | exact True.intro | (refine And.intro ?_ ?_))))), ?_⟩
  (conv => whnf)
  (repeat (first | refine And.intro rfl ?_ | fail))
  (conv => whnf)
  refine ⟨E, [9, 5], by show E.length ≤ 1000000; omega, rfl, by (repeat' (first | exact True.intro | rfl | assumption | exact mc_ok rfl | exact mr_ok | exact fun _ => rfl | (refine And.intro ?_ ?_) | (intro _ _; rfl) | ((conv => whnf); (first | exact True.intro | (refine And.intro ?_ ?_))))), by (repeat' (first | exact True.intro | rfl | assumption | exact mc_ok rfl | exact mr_ok | exact fun _ => rfl | (refine And.intro ?_ ?_) | (intro _ _; rfl) | ((conv => whnf); (first | exact True.intro | (refine And.intro ?_ ?_))))), ?_⟩
  (conv => whnf)
  refine ⟨fun _ => ?_, fun hh => Bool.noConfusion (show (!true) = true from hh)⟩
  (conv => whnf)
  refine ⟨(g, a, b), [0, 1, 2, 3, 4], hhas a b ha hb, rfl, by (repeat' (first | exact True.intro | rfl | assumption | exact mc_ok rfl | exact mr_ok | exact fun _ => rfl | (refine And.intro ?_ ?_) | (intro _ _; rfl) | ((conv => whnf); (first | exact True.intro | (refine And.intro ?_ ?_))))), by (repeat' (first | exact True.intro | rfl | assumption | exact mc_ok rfl | exact mr_ok | exact fun _ => rfl | (refine And.intro ?_ ?_) | (intro _ _; rfl) | ((conv => whnf); (first | exact True.intro | (refine And.intro ?_ ?_))))), ?_⟩
  (conv => whnf)
  (repeat (first | refine And.intro rfl ?_ | fail))
  (conv => whnf)
  refine ⟨((N, M, E), (a, b)), [5], by show E.length ≤ 20000; omega, rfl, by (repeat' (first | exact True.intro | rfl | assumption | exact mc_ok rfl | exact mr_ok | exact fun _ => rfl | (refine And.intro ?_ ?_) | (intro _ _; rfl) | ((conv => whnf); (first | exact True.intro | (refine And.intro ?_ ?_))))), by (repeat' (first | exact True.intro | rfl | assumption | exact mc_ok rfl | exact mr_ok | exact fun _ => rfl | (refine And.intro ?_ ?_) | (intro _ _; rfl) | ((conv => whnf); (first | exact True.intro | (refine And.intro ?_ ?_))))), ?_⟩
  (conv => whnf)
  have hee : edge g.ns a b = decide (0 ≤ fE E (a, b)) := by rw [Bool.eq_iff_iff, hG.edge, decide_eq_true_iff, fE_iff]
  refine ⟨fun hh => absurd (show ((edge g.ns a b == decide (0 ≤ fE E (a, b))) == false) = true from hh) (by rw [hee]; simp), fun _ => ?_⟩
  clear hee
  obtain ⟨KL, hKL⟩ : ∃ K, K = a :: b :: NL := ⟨_, rfl⟩
  have hkl : KL.length = NL.length + 2 := by rw [hKL]; rfl
  have hkv : ∀ x ∈ KL, x.size ≤ 300 := fun x hx => by
    rw [hKL] at hx
    rcases List.mem_cons.1 hx with rfl | hx
    · exact ha
    · rcases List.mem_cons.1 hx with rfl | hx
      · exact hb
      · exact hnv x hx
  (conv => whnf)
  refine ⟨some (fun q => [.str (KL.getD q eS)]), ?_⟩
  (conv => whnf)
  refine ⟨by show 0 + NL.length ≤ NL.length; omega, by show 0 + 2 ≤ 2; omega, by show (2 + NL.length) * (16 + 1) ≤ 1000000000; omega, fun q hq => ?_, ?_⟩
  · rw [hKL]
    show ([.str ((a :: b :: NL).getD q eS)] : List V) = appF 2 (fun q => chunk [.str a, .str b] 1 (0 + q)) (fun q => [.str (NL.getD (0 + q) eS)]) q
    match q with
    | 0 => rfl
    | 1 => rfl
    | q + 2 =>
      show ([.str (NL.getD q eS)] : List V) = [.str (NL.getD (0 + (q + 2 - 2)) eS)]
      rw [Nat.add_sub_cancel, Nat.zero_add]
  (conv => whnf)
  refine .inl ⟨Nat, fun i => [(0, .ptr 0 0), (5, .ptr 6 0), (56, .sl 7 0 1 KL.length false), (57, i64 KL.length), (58, i64 i)], fun _ => g.all _root_.id ++ [some (edR E), some (.cells (cellsOf (rgV 5 N M E)) 32), some (stR KL)], fun i => KL.length - i, fun i => i ≤ KL.length, 8, ⟨0, [some 6, some 11], Nat.zero_le _, ?_⟩, fun _ => rfl, fun i hi => ?_⟩
  · (repeat' (first | exact True.intro | rfl | assumption | exact mc_ok rfl | exact mr_ok | exact fun _ => rfl | (refine And.intro ?_ ?_) | (intro _ _; rfl) | ((conv => whnf); (first | exact True.intro | (refine And.intro ?_ ?_)))))
    all_goals first | (show KL.length = 2 + NL.length; omega) | (show (KL.length : Int) = ((2 + NL.length : Nat) : Int); omega)
  have hi : i ≤ KL.length := hi
  have ei := zero_add_toNat i
  (conv => whnf)
  constructor
  rotate_left
  · intro h
    (conv => whnf)
    refine ⟨[], _, _, hQ, ?_⟩
    (repeat' (first | exact True.intro | rfl | assumption | exact mc_ok rfl | exact mr_ok | exact fun _ => rfl | (refine And.intro ?_ ?_) | (intro _ _; rfl) | ((conv => whnf); (first | exact True.intro | (refine And.intro ?_ ?_)))))
  intro h
  have h : i < KL.length := by have : (i : Int) < (KL.length : Int) := of_decide_eq_true h; omega
  have b1 : (0 : Int) ≤ (i : Int) ∧ (i : Int) < (KL.length : Int) := ⟨by omega, by omega⟩
  have hk : (KL.getD i eS).size ≤ 300 := hkv _ (by rw [List.getD_eq_getElem?_getD, List.getElem?_eq_getElem h]; exact List.getElem_mem h)
  have hcl := chE_len E (KL.getD i eS)
  have hpl := prE_len E (KL.getD i eS)
  (conv => whnf)
  refine ⟨b1.1, b1.2, ?_⟩
  (conv => whnf)
  refine ⟨by rw [ei]; exact h, ?_⟩
  rw [ei]
  (conv => whnf)
  refine ⟨(g, KL.getD i eS, chE E (KL.getD i eS)), [0, 1, 2, 3, 4], ⟨⟨hG.gu.gt, hG.gu.n1, by show (KL.getD i eS).size ≤ 1000000; omega, hG.gu.ei⟩, hG.rel.ch hG.pu _⟩, rfl, by (repeat' (first | exact True.intro | rfl | assumption | exact mc_ok rfl | exact mr_ok | exact fun _ => rfl | (refine And.intro ?_ ?_) | (intro _ _; rfl) | ((conv => whnf); (first | exact True.intro | (refine And.intro ?_ ?_))))), by (repeat' (first | exact True.intro | rfl | assumption | exact mc_ok rfl | exact mr_ok | exact fun _ => rfl | (refine And.intro ?_ ?_) | (intro _ _; rfl) | ((conv => whnf); (first | exact True.intro | (refine And.intro ?_ ?_))))), ?_⟩
  (conv => whnf)
  refine ⟨((N, M, E), KL.getD i eS), [5], by show E.length ≤ 20000; omega, rfl, by (repeat' (first | exact True.intro | rfl | assumption | exact mc_ok rfl | exact mr_ok | exact fun _ => rfl | (refine And.intro ?_ ?_) | (intro _ _; rfl) | ((conv => whnf); (first | exact True.intro | (refine And.intro ?_ ?_))))), by (repeat' (first | exact True.intro | rfl | assumption | exact mc_ok rfl | exact mr_ok | exact fun _ => rfl | (refine And.intro ?_ ?_) | (intro _ _; rfl) | ((conv => whnf); (first | exact True.intro | (refine And.intro ?_ ?_))))), ?_⟩
  (conv => whnf)
  refine ⟨chE E (KL.getD i eS), [8, 9], by show (chE E (KL.getD i eS)).length ≤ 1000000; omega, rfl, by (repeat' (first | exact True.intro | rfl | assumption | exact mc_ok rfl | exact mr_ok | exact fun _ => rfl | (refine And.intro ?_ ?_) | (intro _ _; rfl) | ((conv => whnf); (first | exact True.intro | (refine And.intro ?_ ?_))))), by (repeat' (first | exact True.intro | rfl | assumption | exact mc_ok rfl | exact mr_ok | exact fun _ => rfl | (refine And.intro ?_ ?_) | (intro _ _; rfl) | ((conv => whnf); (first | exact True.intro | (refine And.intro ?_ ?_))))), ?_⟩
  (conv => whnf)
  refine ⟨fun _ => ?_, fun hh => Bool.noConfusion (show (!true) = true from hh)⟩
  (conv => whnf)
  refine ⟨(g, KL.getD i eS, prE E (KL.getD i eS)), [0, 1, 2, 3, 4], ⟨⟨hG.gu.gt, hG.gu.n1, by show (KL.getD i eS).size ≤ 1000000; omega, hG.gu.ei⟩, hG.rel.pa hG.pu _⟩, rfl, by (repeat' (first | exact True.intro | rfl | assumption | exact mc_ok rfl | exact mr_ok | exact fun _ => rfl | (refine And.intro ?_ ?_) | (intro _ _; rfl) | ((conv => whnf); (first | exact True.intro | (refine And.intro ?_ ?_))))), by (repeat' (first | exact True.intro | rfl | assumption | exact mc_ok rfl | exact mr_ok | exact fun _ => rfl | (refine And.intro ?_ ?_) | (intro _ _; rfl) | ((conv => whnf); (first | exact True.intro | (refine And.intro ?_ ?_))))), ?_⟩
  (conv => whnf)
  (repeat (first | refine And.intro rfl ?_ | fail))
  (conv => whnf)
  refine ⟨((N, M, E), KL.getD i eS), [5], by show E.length ≤ 20000; omega, rfl, by (repeat' (first | exact True.intro | rfl | assumption | exact mc_ok rfl | exact mr_ok | exact fun _ => rfl | (refine And.intro ?_ ?_) | (intro _ _; rfl) | ((conv => whnf); (first | exact True.intro | (refine And.intro ?_ ?_))))), by (repeat' (first | exact True.intro | rfl | assumption | exact mc_ok rfl | exact mr_ok | exact fun _ => rfl | (refine And.intro ?_ ?_) | (intro _ _; rfl) | ((conv => whnf); (first | exact True.intro | (refine And.intro ?_ ?_))))), ?_⟩
  (conv => whnf)
  refine ⟨prE E (KL.getD i eS), [10, 11], by show (prE E (KL.getD i eS)).length ≤ 1000000; omega, rfl, by (repeat' (first | exact True.intro | rfl | assumption | exact mc_ok rfl | exact mr_ok | exact fun _ => rfl | (refine And.intro ?_ ?_) | (intro _ _; rfl) | ((conv => whnf); (first | exact True.intro | (refine And.intro ?_ ?_))))), by (repeat' (first | exact True.intro | rfl | assumption | exact mc_ok rfl | exact mr_ok | exact fun _ => rfl | (refine And.intro ?_ ?_) | (intro _ _; rfl) | ((conv => whnf); (first | exact True.intro | (refine And.intro ?_ ?_))))), ?_⟩
  (conv => whnf)
  refine ⟨fun hh => Bool.noConfusion (show (!true) = true from hh), fun _ => ?_⟩
  (conv => whnf)
  refine .inl ⟨Nat, fun j => [(0, .ptr 0 0), (5, .ptr 6 0), (56, .sl 7 0 1 KL.length false), (57, i64 KL.length), (58, i64 i), (11, .str (KL.getD i eS)), (12, .sl 8 0 1 (chE E (KL.getD i eS)).length false), (13, i64 j)], fun j => g.all _root_.id ++ [some (edR E), some (.cells (cellsOf (rgV 5 N M E)) 32), some (stR KL), some (chR (chE E (KL.getD i eS)) j)], fun j => (chE E (KL.getD i eS)).length - j, fun j => j ≤ (chE E (KL.getD i eS)).length, 9, ⟨0, [some 6, some 7, some 8], Nat.zero_le _, ?_⟩, fun _ => rfl, fun j hj => ?_⟩
  · (repeat' (first | exact True.intro | rfl | assumption | exact mc_ok rfl | exact mr_ok | exact fun _ => rfl | (refine And.intro ?_ ?_) | (intro _ _; rfl) | ((conv => whnf); (first | exact True.intro | (refine And.intro ?_ ?_)))))
  have hj : j ≤ (chE E (KL.getD i eS)).length := hj
  have ej := zero_add_toNat j
  (conv => whnf)
  constructor
  rotate_left
  · intro h2
    (conv => whnf)
    refine ⟨i + 1, [some 6, some 7], by show KL.length - (i + 1) < KL.length - i; omega, by show i + 1 ≤ KL.length; omega, ?_⟩
    (repeat' (first | exact True.intro | rfl | assumption | exact mc_ok rfl | exact mr_ok | exact fun _ => rfl | (refine And.intro ?_ ?_) | (intro _ _; rfl) | ((conv => whnf); (first | exact True.intro | (refine And.intro ?_ ?_)))))
    all_goals exact (wrap_inc h (by omega)).symm
  intro h2
  have h2 : j < (chE E (KL.getD i eS)).length := by have : (j : Int) < ((chE E (KL.getD i eS)).length : Int) := of_decide_eq_true h2; omega
  have b2 : (0 : Int) ≤ (j : Int) ∧ (j : Int) < ((chE E (KL.getD i eS)).length : Int) := ⟨by omega, by omega⟩
  (conv => whnf)
  refine ⟨b2.1, b2.2, ?_⟩
  (conv => whnf)
  have hx0 : (chE E (KL.getD i eS)).getD j eS ∈ chE E (KL.getD i eS) := strD_mem h2
  have hx1 := mem_chE.1 hx0
  have hx2 : ((chE E (KL.getD i eS)).getD j eS).size ≤ 300 := Nat.le_trans (validK_iff.1 (hG.valid _ hx1).2).2 (by omega)
  have he1 : edge g.ns (KL.getD i eS) ((chE E (KL.getD i eS)).getD j eS) = true := by rw [hG.edge]; exact hasE_iff.2 hx1
  have he2 : edge g.ns ((chE E (KL.getD i eS)).getD j eS) (KL.getD i eS) = false := by
    rw [hG.edge]
    exact Bool.eq_false_iff.2 fun q => hac _ (.cons hx1 (.one (hasE_iff.1 q)))
  have hvw : ([.str (if 0 + (j : Int).toNat < j then chd else (chE E (KL.getD i eS)).getD (0 + (j : Int).toNat) eS)] : List V) = [.str ((chE E (KL.getD i eS)).getD j eS)] := by rw [ej, if_neg (Nat.lt_irrefl j)]
  refine ⟨by rw [ej]; exact h2, ?_⟩
  refine partV_to hvw ?_
  (conv => whnf)
  refine ⟨(g, KL.getD i eS, (chE E (KL.getD i eS)).getD j eS), [0, 1, 2, 3, 4], hhas _ _ hk hx2, rfl, by (repeat' (first | exact True.intro | rfl | assumption | exact mc_ok rfl | exact mr_ok | exact fun _ => rfl | (refine And.intro ?_ ?_) | (intro _ _; rfl) | ((conv => whnf); (first | exact True.intro | (refine And.intro ?_ ?_))))), by (repeat' (first | exact True.intro | rfl | assumption | exact mc_ok rfl | exact mr_ok | exact fun _ => rfl | (refine And.intro ?_ ?_) | (intro _ _; rfl) | ((conv => whnf); (first | exact True.intro | (refine And.intro ?_ ?_))))), ?_⟩
  (conv => whnf)
  refine ⟨fun _ => ?_, fun hh => absurd (show (!edge g.ns (KL.getD i eS) ((chE E (KL.getD i eS)).getD j eS)) = true from hh) (by rw [he1]; simp)⟩
  (conv => whnf)
  refine ⟨b2.1, b2.2, ?_⟩
  (conv => whnf)
  refine ⟨by rw [ej]; exact h2, ?_⟩
  refine partV_to hvw ?_
  (conv => whnf)
  refine ⟨(g, (chE E (KL.getD i eS)).getD j eS, KL.getD i eS), [0, 1, 2, 3, 4], hhas _ _ hx2 hk, rfl, by (repeat' (first | exact True.intro | rfl | assumption | exact mc_ok rfl | exact mr_ok | exact fun _ => rfl | (refine And.intro ?_ ?_) | (intro _ _; rfl) | ((conv => whnf); (first | exact True.intro | (refine And.intro ?_ ?_))))), by (repeat' (first | exact True.intro | rfl | assumption | exact mc_ok rfl | exact mr_ok | exact fun _ => rfl | (refine And.intro ?_ ?_) | (intro _ _; rfl) | ((conv => whnf); (first | exact True.intro | (refine And.intro ?_ ?_))))), ?_⟩
  (conv => whnf)
  refine ⟨fun hh => absurd (show edge g.ns ((chE E (KL.getD i eS)).getD j eS) (KL.getD i eS) = true from hh) (by rw [he2]; simp), fun _ => ?_⟩
  (conv => whnf)
  refine ⟨b2.1, b2.2, ?_⟩
  (conv => whnf)
  refine ⟨some (fun q => [.str (if q < j + 1 then chd else (chE E (KL.getD i eS)).getD q eS)]), ?_⟩
  (conv => whnf)
  refine ⟨by rw [ej]; exact h2, ?_⟩
  (conv => whnf)
  refine ⟨fun q _ => ?_, ?_⟩
  · show ([.str (if q < j + 1 then chd else (chE E (KL.getD i eS)).getD q eS)] : List V) = bif Nat.beq q (0 + (j : Int).toNat) then putD 0 [.str (if q < j then chd else (chE E (KL.getD i eS)).getD q eS)] [.str chd] else [.str (if q < j then chd else (chE E (KL.getD i eS)).getD q eS)]
    rw [ej]
    by_cases e : q = j
    · subst e
      rw [Nat.beq_refl, if_pos (Nat.lt_succ_self q)]
      rfl
    · rw [show Nat.beq q j = false from by cases hb : Nat.beq q j with | false => rfl | true => exact absurd (Nat.eq_of_beq_eq_true hb) e]
      by_cases e2 : q < j
      · rw [if_pos e2, if_pos (by omega)]
        rfl
      · rw [if_neg e2, if_neg (by omega)]
        rfl
  (conv => whnf)
  refine ⟨j + 1, [some 6, some 7, some 8], by show (chE E (KL.getD i eS)).length - (j + 1) < (chE E (KL.getD i eS)).length - j; omega, by show j + 1 ≤ (chE E (KL.getD i eS)).length; omega, ?_⟩
  (repeat' (first | exact True.intro | rfl | assumption | exact mc_ok rfl | exact mr_ok | exact fun _ => rfl | (refine And.intro ?_ ?_) | (intro _ _; rfl) | ((conv => whnf); (first | exact True.intro | (refine And.intro ?_ ?_)))))
  all_goals exact (wrap_inc h2 (by omega)).symm
end Go.Proofs.Ytmgcpfljhcahoaa
