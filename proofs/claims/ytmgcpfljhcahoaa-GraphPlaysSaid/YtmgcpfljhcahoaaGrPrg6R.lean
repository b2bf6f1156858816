/- What the functions of package graph compute: Reaches. -/
import Derived.Test.YtmgcpfljhcahoaaGrPrg5R
namespace Go.Proofs.Ytmgcpfljhcahoaa
open Go Sy Tb Gr
set_option maxRecDepth 100000
set_option maxHeartbeats 2000000

/-! Reaches -/
/-- What a search says. -/
def reachR (ns : List NS) (a b : Bs) (most : Int) : Bool × Int × Int :=
  if (validK a && validK b) = true then (if most < 0 then (false, 0, 2) else if most < ((srch (keysE false ns) a b).2 : Int) then (false, most, 7) else ((srch (keysE false ns) a b).1, ((srch (keysE false ns) a b).2 : Int), 0)) else (false, 0, 2)
def lnP (i : Nat) (adr : Nat → Nat) (L : List Nat) : SObj := .row L.length (fun q => [.ap i (adr (L.getD q 0)) 0]) 88 1
theorem conRe : ConOk Try.prog (conOf [(43, SCheck.T), (44, SFind.T), (27, (SEnds false).T)]) :=
  conOf_cons (LSpec.call SCheck_nt SCheck_ok) (conOf_cons (LSpec.call SFind_nt SFind_ok) (conOf_cons (LSpec.call (SEnds_nt false) SChildren_ok (fun _ => rfl) (show 5 ≤ 60 by decide)) conOf_nil))
/-- What is asked of a graph in use. -/
structure GU (g : GG) : Prop where
  gt : GT g g.ns.length
  ei : EI g.ns
  n1 : 1 ≤ g.N
  sr : 0 ≤ g.sr ∧ g.sr < 1000000000000
  mks : ∀ j, j < g.ns.length → (g.ns.getD j ns0).mark ≤ g.sr
  ks : ∀ j, j < g.ns.length → (keyAt g.ns j).size ≤ 250
  h2 : 2 * g.ns.length ≤ g.m
theorem Gr.SameE.keys {ns ns' : List NS} (h : SameE ns ns') (hd : Dk ns) (e : Bool) (k : Bs) : keysE e ns' k = keysE e ns k := by
  have ek : keyAt ns' = keyAt ns := funext h.key
  unfold keysE kksE
  rw [h.idx hd, ek, h.ls]
theorem Gr.SameE.ei {ns ns' : List NS} (h : SameE ns ns') (he : EI ns) : EI ns' :=
  ⟨fun e i hi b hb => by rw [h.len] at hi ⊢; rw [h.ls] at hb; exact he.lt e i hi b hb, fun e i hi => by rw [h.len] at hi; rw [h.ls]; exact he.len e i hi⟩
theorem srch_none {ch : Bs → List Bs} {a b : Bs} (h : ch a = []) : srch ch a b = (false, 0) := by
  unfold srch fuel
  rw [goL_in (f := 199999) (show 0 < [a].length from Nat.zero_lt_one)]
  show goM ch b 199999 0 (ch a) [a] 0 = _
  rw [h, goM_nil, goL_out (by show ¬ 0 + 1 < 1; omega)]
def endR (most : Int) (r : Bool × Nat) : Bool × Int × Int := if most < (r.2 : Int) then (false, most, 7) else (r.1, (r.2 : Int), 0)
/-- What a search keeps. -/
structure RI (g : GG) (most : Int) (L : List Nat) (n : Nat) (M1 : Nat → Option ND) (ns : List NS) : Prop where
  same : SameE g.ns ns
  gi : GI g.adr M1 g.M2 ns
  nd : L.Nodup
  lt : ∀ j ∈ L, j < g.ns.length
  mki : ∀ j, j < g.ns.length → ((ns.getD j ns0).mark = g.sr + 1 ↔ j ∈ L)
  ml : ∀ j, j < g.ns.length → (ns.getD j ns0).mark ≤ g.sr + 1
  nm : (n : Int) ≤ most
theorem RI.gt {g : GG} {most : Int} {L : List Nat} {n : Nat} {M1 : Nat → Option ND} {ns : List NS} (h : RI g most L n M1 ns) (hG : GT g g.ns.length) : GT { g with M1 := M1, ns := ns, sr := g.sr + 1 } ns.length :=
  ⟨hG.ht.same h.same, h.gi, hG.seed, hG.m8, hG.mle, (show ns.length ≤ 50000 by rw [h.same.len]; exact hG.nle), hG.ev⟩
theorem RI.gu {g : GG} {most : Int} {L : List Nat} {n : Nat} {M1 : Nat → Option ND} {ns : List NS} (h : RI g most L n M1 ns) (hU : GU g) (hs : g.sr + 1 < 1000000000000) : GU { g with M1 := M1, ns := ns, sr := g.sr + 1 } :=
  ⟨h.gt hU.gt, h.same.ei hU.ei, hU.n1, ⟨by have := hU.sr.1; show 0 ≤ g.sr + 1; omega, hs⟩, fun j hj => h.ml j (by rw [← h.same.len]; exact hj), fun j hj => (show (keyAt ns j).size ≤ 250 by rw [h.same.key]; exact hU.ks j (by rw [← h.same.len]; exact hj)), (show 2 * ns.length ≤ g.m by rw [h.same.len]; exact hU.h2)⟩
theorem RI.len {g : GG} {most : Int} {L : List Nat} {n : Nat} {M1 : Nat → Option ND} {ns : List NS} (h : RI g most L n M1 ns) : L.length ≤ g.ns.length := nodup_le h.nd h.lt
theorem RI.n {g : GG} {most : Int} {L : List Nat} {n n' : Nat} {M1 : Nat → Option ND} {ns : List NS} (h : RI g most L n M1 ns) (hn : (n' : Int) ≤ most) : RI g most L n' M1 ns := ⟨h.same, h.gi, h.nd, h.lt, h.mki, h.ml, hn⟩
/-- A node is marked and comes into the line. -/
theorem RI.step {g : GG} {most : Int} {L : List Nat} {n : Nat} {M1 : Nat → Option ND} {ns : List NS} (h : RI g most L n M1 ns) {j : Nat} (hj : j < g.ns.length) {nd : ND} (hM : M1 (g.adr j) = some nd) (hn : j ∉ L) :
    RI g most (L ++ [j]) n (setF M1 (g.adr j) (some { nd with mark := g.sr + 1 })) (ns.set j { ns.getD j ns0 with mark := g.sr + 1 }) := by
  have hj' : j < ns.length := by rw [h.same.len]; exact hj
  refine ⟨h.same.mark _, h.gi.setMark hj' hM _, ?_, fun i hi => ?_, fun i hi => ?_, fun i hi => ?_, h.nm⟩
  · rw [List.nodup_append]
    exact ⟨h.nd, by simp, fun x hx y hy => by rw [List.mem_singleton] at hy; subst hy; exact fun e => hn (e ▸ hx)⟩
  · rcases List.mem_append.1 hi with g1 | g1
    · exact h.lt i g1
    · rw [List.mem_singleton] at g1; subst g1; exact hj
  · rw [mark_set hj', List.mem_append, List.mem_singleton]
    by_cases e : i = j
    · rw [if_pos e]; exact ⟨fun _ => .inr e, fun _ => rfl⟩
    · rw [if_neg e]; exact ⟨fun q => .inl ((h.mki i hi).1 q), fun q => (h.mki i hi).2 (q.resolve_right e)⟩
  · rw [mark_set hj']
    split
    · exact Int.le_refl _
    · exact h.ml i hi
theorem sortK_perm (l : List Bs) : (sortK l).Perm l := by
  unfold sortK srtB
  have h := (List.mergeSort_perm (l.map (·.data.toList)) fun x y => decide (x ≤ y)).map toB
  rw [List.map_map] at h
  have e : l.map (toB ∘ fun x => x.data.toList) = l := by
    conv => rhs; rw [← List.map_id l]
    exact List.map_congr_left fun x _ => rfl
  rw [e] at h
  exact h
/-- The children of a node are nodes. -/
theorem key_child {ns : List NS} (he : EI ns) {i : Nat} {k : Bs} (hk : k ∈ keysE false ns (keyAt ns i)) : ∃ j, j < ns.length ∧ keyAt ns j = k := by
  unfold keysE at hk
  split at hk
  · rename_i h
    obtain ⟨q1, _, _⟩ := idx_at h
    have hm := (sortK_perm _).mem_iff.1 hk
    unfold kksE at hm
    obtain ⟨j, hj, e⟩ := List.mem_map.1 hm
    exact ⟨j, he.lt false _ q1 j hj, e⟩
  · cases hk
theorem keys_len {ns : List NS} (he : EI ns) {k : Bs} : (keysE false ns k).length ≤ 100000 := by
  unfold keysE
  split
  · rename_i h
    rw [sortK_len, kksE, List.length_map]
    exact he.len false _ (idx_at h).1
  · exact Nat.zero_le _
theorem ln_push {i : Nat} {adr : Nat → Nat} {L : List Nat} {j : Nat} (q : Nat) (hq : q < L.length + 1) : ([.ap i (adr ((L ++ [j]).getD q 0)) 0] : List V) = appF L.length (fun q => [.ap i (adr (L.getD (0 + q) 0)) 0]) (fun q => chunk [.ap i (adr j) 0] 1 (0 + q)) q := by
  unfold appF
  by_cases e : q = L.length
  · subst e
    cases hb : Nat.blt L.length L.length with
    | true => have := Nat.le_of_ble_eq_true hb; omega
    | false =>
      rw [cond_false, Nat.sub_self, List.getD_eq_getElem?_getD, List.getElem?_append_right (Nat.le_refl _), Nat.sub_self]
      rfl
  · rw [show Nat.blt q L.length = true from Nat.ble_eq_true_of_le (by omega), cond_true, List.getD_eq_getElem?_getD, List.getElem?_append_left (by omega)]
    show _ = ([.ap i (adr (L.getD (0 + q) 0)) 0] : List V)
    rw [Nat.zero_add, List.getD_eq_getElem?_getD]
def SReach : LSpec where
  X := GG × Bs × Bs × Int
  k := 5
  pre x := GU x.1 ∧ x.2.1.size ≤ 1000000 ∧ x.2.2.1.size ≤ 1000000
  args x θ := [.ptr (θ 0) 0, .str x.2.1, .str x.2.2.1, i64 x.2.2.2]
  objs x θ := x.1.objs θ
  out x θ R := ∀ M1 ns sr, SameE x.1.ns ns → sr ≤ x.1.sr + 1 → (sr < 1000000000000 → GU { x.1 with M1 := M1, ns := ns, sr := sr }) →
    R (.tup [.sb (reachR x.1.ns x.2.1 x.2.2.1 x.2.2.2).1, i64 (reachR x.1.ns x.2.1 x.2.2.1 x.2.2.2).2.1, i64 (reachR x.1.ns x.2.1 x.2.2.1 x.2.2.2).2.2]) (({ x.1 with M1 := M1, ns := ns, sr := sr } : GG).all θ)
theorem SReach_nt : SReach.Nt := ⟨fun _ _ => rfl, by unfold SReach GG.objs; (intros; simp only [ren_all] at *; try assumption), by unfold SReach GG.all; (intros; simp only [ren_all] at *; try assumption)⟩
theorem SReach_ok : SReach.Ok Try.prog 29 := by
  refine LSpec.of_bodyC [4] noGo mixed conRe Try.func29 rfl (by kernel_rfl) fun ⟨g, a, b, most⟩ R ⟨hU, ha, hb⟩ hR => ?_
  have hU : GU g := hU
  have ha : a.size ≤ 1000000 := ha
  have hb : b.size ≤ 1000000 := hb
  have hQ : ∀ M1 ns sr, SameE g.ns ns → sr ≤ g.sr + 1 → (sr < 1000000000000 → GU { g with M1 := M1, ns := ns, sr := sr }) →
    R (.tup [.sb (reachR g.ns a b most).1, i64 (reachR g.ns a b most).2.1, i64 (reachR g.ns a b most).2.2]) (({ g with M1 := M1, ns := ns, sr := sr } : GG).all _root_.id) := hR
  have hQ0 := hQ g.M1 g.ns g.sr (SameE.refl _) (by omega) fun _ => hU
  (conv => whnf)
  refine ⟨Unit, fun _ => [(0, .ptr 0 0), (1, .str a), (2, .str b), (3, i64 most)], fun _ => [some (grC 1 2 g.N g.E g.seed g.ns.length g.m g.lk g.sr), some (lsR 3 g.ns.length g.adr), some (ceR g.m g.C), some (mcO 4 g.M1), some (mrO g.M2)], fun _ => (validK a && validK b) = true, 5, fun _ => rfl, ?_, fun _ hv => ?_⟩
  · have hN := hU.n1
    (conv => whnf)
    refine ⟨(g, a, b), [0, 1, 2, 3, 4], hN, rfl, by (repeat' (first | exact True.intro | rfl | assumption | exact mc_ok rfl | exact mr_ok | exact fun _ => rfl | (refine And.intro ?_ ?_) | (intro _ _; rfl) | ((conv => whnf); (first | exact True.intro | (refine And.intro ?_ ?_))))), by (repeat' (first | exact True.intro | rfl | assumption | exact mc_ok rfl | exact mr_ok | exact fun _ => rfl | (refine And.intro ?_ ?_) | (intro _ _; rfl) | ((conv => whnf); (first | exact True.intro | (refine And.intro ?_ ?_))))), ?_⟩
    (conv => whnf)
    constructor
    · intro h
      have hn : ¬ (validK a && validK b) = true := fun q => by
        rw [chkE_yes q] at h
        exact absurd h (by decide)
      rw [show reachR g.ns a b most = (false, 0, 2) from if_neg hn] at hQ0
      (conv => whnf)
      refine ⟨[], _, _, hQ0, ?_⟩
      (repeat' (first | exact True.intro | rfl | assumption | exact mc_ok rfl | exact mr_ok | exact fun _ => rfl | (refine And.intro ?_ ?_) | (intro _ _; rfl) | ((conv => whnf); (first | exact True.intro | (refine And.intro ?_ ?_)))))
      all_goals exact (chkE_no hn).symm
    · intro h
      have hv : (validK a && validK b) = true := Decidable.byContradiction fun q => by
        rw [chkE_no q] at h
        exact absurd h (by decide)
      (conv => whnf)
      refine ⟨(), [], hv, ?_⟩
      (repeat' (first | exact True.intro | rfl | assumption | exact mc_ok rfl | exact mr_ok | exact fun _ => rfl | (refine And.intro ?_ ?_) | (intro _ _; rfl) | ((conv => whnf); (first | exact True.intro | (refine And.intro ?_ ?_)))))
  · have hv : (validK a && validK b) = true := hv
    rw [show reachR g.ns a b most = _ from if_pos hv] at hQ hQ0
    (conv => whnf)
    constructor
    · intro h
      have h : most < 0 := of_decide_eq_true h
      rw [if_pos h] at hQ0
      (conv => whnf)
      refine ⟨[], _, _, hQ0, ?_⟩
      (repeat' (first | exact True.intro | rfl | assumption | exact mc_ok rfl | exact mr_ok | exact fun _ => rfl | (refine And.intro ?_ ?_) | (intro _ _; rfl) | ((conv => whnf); (first | exact True.intro | (refine And.intro ?_ ?_)))))
    · intro h
      have h : ¬ most < 0 := of_decide_eq_false h
      rw [if_neg h] at hQ hQ0
      have hQ : ∀ M1 ns sr, SameE g.ns ns → sr ≤ g.sr + 1 → (sr < 1000000000000 → GU { g with M1 := M1, ns := ns, sr := sr }) →
        R (.tup [.sb (endR most (srch (keysE false g.ns) a b)).1, i64 (endR most (srch (keysE false g.ns) a b)).2.1, i64 (endR most (srch (keysE false g.ns) a b)).2.2]) (({ g with M1 := M1, ns := ns, sr := sr } : GG).all _root_.id) := hQ
      have hQ0 : R (.tup [.sb (endR most (srch (keysE false g.ns) a b)).1, i64 (endR most (srch (keysE false g.ns) a b)).2.1, i64 (endR most (srch (keysE false g.ns) a b)).2.2]) (g.all _root_.id) := hQ0
      (conv => whnf)
      refine ⟨(g, a), [0, 1, 2, 3, 4], ⟨hU.gt, ha⟩, rfl, by (repeat' (first | exact True.intro | rfl | assumption | exact mc_ok rfl | exact mr_ok | exact fun _ => rfl | (refine And.intro ?_ ?_) | (intro _ _; rfl) | ((conv => whnf); (first | exact True.intro | (refine And.intro ?_ ?_))))), by (repeat' (first | exact True.intro | rfl | assumption | exact mc_ok rfl | exact mr_ok | exact fun _ => rfl | (refine And.intro ?_ ?_) | (intro _ _; rfl) | ((conv => whnf); (first | exact True.intro | (refine And.intro ?_ ?_))))), ?_⟩
      (conv => whnf)
      constructor
      · intro h1
        have h1 : idxI g.ns a < 0 := of_decide_eq_true h1
        rw [srch_none (if_neg (by omega)), show endR most (false, 0) = (false, 0, 0) from if_neg (by show ¬ most < ((0 : Nat) : Int); omega)] at hQ0
        (conv => whnf)
        refine ⟨[], _, _, hQ0, ?_⟩
        (repeat' (first | exact True.intro | rfl | assumption | exact mc_ok rfl | exact mr_ok | exact fun _ => rfl | (refine And.intro ?_ ?_) | (intro _ _; rfl) | ((conv => whnf); (first | exact True.intro | (refine And.intro ?_ ?_)))))
      · intro h1
        have h1 : ¬ idxI g.ns a < 0 := of_decide_eq_false h1
        obtain ⟨q1, q2, q3⟩ := idx_at (ns := g.ns) (k := a) (by omega)
        have ez : 0 + (idxI g.ns a).toNat = (idxI g.ns a).toNat := Nat.zero_add _
        obtain ⟨nd, hM, hkey⟩ := hU.gt.gi.nd q1
        have hsr := hU.sr
        have ew : IntKind.i64.wrap (g.sr + 1) = g.sr + 1 := wrap_id (by omega) (by omega)
        generalize hn : (idxI g.ns a).toNat = N0 at *
        have hi0 : RI g most [N0] 0 (setF g.M1 (g.adr N0) (some { nd with mark := g.sr + 1 })) (g.ns.set N0 { g.ns.getD N0 ns0 with mark := g.sr + 1 }) := by
          have h0 : RI g most [] 0 g.M1 g.ns := ⟨SameE.refl _, hU.gt.gi, List.nodup_nil, fun j hj => absurd hj List.not_mem_nil, fun j hj => ⟨fun e => by have := hU.mks j hj; omega, fun hh => absurd hh List.not_mem_nil⟩, fun j hj => by have := hU.mks j hj; omega, by omega⟩
          exact h0.step q1 hM List.not_mem_nil
        (conv => whnf)
        refine ⟨by show 0 ≤ idxI g.ns a; omega, q3, ?_⟩
        (conv => whnf)
        refine ⟨by show 0 + (idxI g.ns a).toNat < g.ns.length; rw [hn, Nat.zero_add]; exact q1, ?_⟩
        (conv => whnf)
        refine ⟨ndL 4 nd, by show (g.M1 (g.adr (0 + (idxI g.ns a).toNat))).map (ndL 4) = _; rw [hn, Nat.zero_add, hM]; rfl, ?_⟩
        (conv => whnf)
        refine ⟨fun x => (setF g.M1 (g.adr N0) (some { nd with mark := g.sr + 1 }) x).map (ndL 4), ⟨by show (setF g.M1 (g.adr N0) (some { nd with mark := g.sr + 1 }) (g.adr (0 + (idxI g.ns a).toNat))).map (ndL 4) = some (ndL 4 { nd with mark := IntKind.i64.wrap (g.sr + 1) }); rw [hn, Nat.zero_add, setF_same, ew]; rfl, fun x hx => (show (setF g.M1 (g.adr N0) (some { nd with mark := g.sr + 1 }) x).map (ndL 4) = (g.M1 x).map (ndL 4) by rw [setF_ne (show x ≠ g.adr N0 from fun e => hx (by rw [e]; show _ = g.adr (0 + (idxI g.ns a).toNat); rw [hn, Nat.zero_add]))])⟩, ?_⟩
        (conv => whnf)
        refine ⟨by show 0 ≤ idxI g.ns a; omega, q3, ?_⟩
        (conv => whnf)
        refine ⟨by show 0 + (idxI g.ns a).toNat < g.ns.length; rw [hn, Nat.zero_add]; exact q1, ?_⟩
        have hE : ∀ L n M1 ns, RI g most L n M1 ns → R (.tup [.sb (endR most (srch (keysE false g.ns) a b)).1, i64 (endR most (srch (keysE false g.ns) a b)).2.1, i64 (endR most (srch (keysE false g.ns) a b)).2.2]) (({ g with M1 := M1, ns := ns, sr := g.sr + 1 } : GG).all _root_.id) :=
          fun L n M1 ns h => hQ M1 ns (g.sr + 1) h.same (Int.le_refl _) (h.gu hU)
        have hdk := hU.gt.ht.dk
        have hnl := hU.gt.nle
        have hs0 : goL (keysE false g.ns) b (fuel - 0) 0 (kL g.ns [N0]) 0 = srch (keysE false g.ns) a b := by
          show goL (keysE false g.ns) b fuel 0 [keyAt g.ns N0] 0 = goL (keysE false g.ns) b fuel 0 [a] 0
          rw [q2]
        clear hQ hQ0 hR
        (conv => whnf)
        refine .inl ⟨Nat × List Nat × Nat × (Nat → Option ND) × List NS, fun x => [(0, .ptr 0 0), (2, .str b), (3, i64 most), (13, i64 x.2.2.1), (14, .sl 5 0 1 x.2.1.length false), (15, i64 x.1)],
          fun x => [some (grC 1 2 g.N g.E g.seed x.2.2.2.2.length g.m g.lk (g.sr + 1)), some (lsR 3 x.2.2.2.2.length g.adr), some (ceR g.m g.C), some (mcO 4 x.2.2.2.1), some (mrO g.M2), some (lnP 3 g.adr x.2.1)],
          fun x => g.ns.length + 1 - x.1, fun x => RI g most x.2.1 x.2.2.1 x.2.2.2.1 x.2.2.2.2 ∧ x.1 ≤ x.2.1.length ∧ x.2.2.1 ≤ x.1 * 100000 ∧ goL (keysE false g.ns) b (fuel - x.1) x.1 (kL g.ns x.2.1) x.2.2.1 = srch (keysE false g.ns) a b, 6,
          ⟨(0, [N0], 0, _, _), [some 5], ⟨hi0, Nat.zero_le _, Nat.zero_le _, hs0⟩, ?_⟩, fun _ => rfl, fun ⟨i, L, n, M1, ns⟩ ⟨hI, hiL, hn2, hres⟩ => ?_⟩
        · (repeat' (first | exact True.intro | rfl | assumption | exact mc_ok rfl | exact mr_ok | exact fun _ => rfl | (refine And.intro ?_ ?_) | (intro _ _; rfl) | ((conv => whnf); (first | exact True.intro | (refine And.intro ?_ ?_)))))
          all_goals first
            | exact List.length_set ..
            | exact ew.symm
            | (intro q hq
               obtain rfl : q = 0 := by have : q < 1 := hq; omega
               show ([V.ap 3 (g.adr N0) 0] : List V) = [V.ap 3 (g.adr (0 + (idxI g.ns a).toNat)) 0]
               rw [hn, Nat.zero_add])
        have hI : RI g most L n M1 ns := hI
        have hiL : i ≤ L.length := hiL
        have hn2 : n ≤ i * 100000 := hn2
        have hres : goL (keysE false g.ns) b (fuel - i) i (kL g.ns L) n = srch (keysE false g.ns) a b := hres
        have hLl := hI.len
        have hln := hI.same.len
        have ei := zero_add_toNat i
        (conv => whnf)
        constructor
        · intro hh
          have hi : i < L.length := by have : (i : Int) < (L.length : Int) := of_decide_eq_true hh; omega
          obtain ⟨k, hk⟩ : ∃ k, k = L.getD i 0 := ⟨_, rfl⟩
          have hkm : k ∈ L := by rw [hk, List.getD_eq_getElem?_getD, List.getElem?_eq_getElem hi]; exact List.getElem_mem hi
          have hkl := hI.lt k hkm
          obtain ⟨nd1, hM1, hkey1⟩ := hI.gi.nd (show k < ns.length by rw [hln]; exact hkl)
          rw [hI.same.key] at hkey1
          have hsz := hU.ks k hkl
          (conv => whnf)
          refine ⟨by show (0 : Int) ≤ (i : Int); omega, by show (i : Int) < (L.length : Int); omega, ?_⟩
          (conv => whnf)
          refine ⟨by rw [ei]; exact hi, ?_⟩
          (conv => whnf)
          refine ⟨ndL 4 nd1, by show (M1 (g.adr (L.getD (0 + (i : Int).toNat) 0))).map (ndL 4) = _; rw [ei, ← hk, hM1]; rfl, ?_⟩
          (conv => whnf)
          refine ⟨({ g with M1 := M1, ns := ns, sr := g.sr + 1 }, nd1.key), [0, 1, 2, 3, 4], ⟨hI.gt hU.gt, hU.n1, by show nd1.key.size ≤ 1000000; rw [hkey1]; omega, hI.same.ei hU.ei⟩, rfl, by (repeat' (first | exact True.intro | rfl | assumption | exact mc_ok rfl | exact mr_ok | exact fun _ => rfl | (refine And.intro ?_ ?_) | (intro _ _; rfl) | ((conv => whnf); (first | exact True.intro | (refine And.intro ?_ ?_))))), by (repeat' (first | exact True.intro | rfl | assumption | exact mc_ok rfl | exact mr_ok | exact fun _ => rfl | (refine And.intro ?_ ?_) | (intro _ _; rfl) | ((conv => whnf); (first | exact True.intro | (refine And.intro ?_ ?_))))), ?_⟩
          have hK : keysE false ns nd1.key = keysE false g.ns (keyAt g.ns k) := by rw [hI.same.keys hdk, hkey1]
          have hKl := keys_len hU.ei (k := keyAt g.ns k)
          have hch : ∀ x ∈ keysE false g.ns (keyAt g.ns k), ∃ j, j < g.ns.length ∧ keyAt g.ns j = x := fun x hx => key_child hU.ei hx
          have hf : fuel - i = fuel - (i + 1) + 1 := by have : fuel = 200000 := rfl; omega
          rw [hf, goL_in (by unfold kL; rw [List.length_map]; exact hi), kL_get hi, ← hk] at hres
          generalize hKd : keysE false g.ns (keyAt g.ns k) = K at *
          (conv => whnf)
          refine .inl ⟨Nat × List Nat × Nat × (Nat → Option ND) × List NS, fun x => [(0, .ptr 0 0), (2, .str b), (3, i64 most), (13, i64 x.2.2.1), (14, .sl 5 0 1 x.2.1.length false), (15, i64 i), (75, .sl 6 0 1 K.length false), (76, i64 K.length), (77, i64 x.1)],
            fun x => [some (grC 1 2 g.N g.E g.seed x.2.2.2.2.length g.m g.lk (g.sr + 1)), some (lsR 3 x.2.2.2.2.length g.adr), some (ceR g.m g.C), some (mcO 4 x.2.2.2.1), some (mrO g.M2), some (lnP 3 g.adr x.2.1), some (stR K)],
            fun x => K.length - x.1, fun x => RI g most x.2.1 x.2.2.1 x.2.2.2.1 x.2.2.2.2 ∧ i < x.2.1.length ∧ x.1 ≤ K.length ∧ x.2.2.1 ≤ i * 100000 + x.1 ∧ goM (keysE false g.ns) b (fuel - (i + 1)) i (K.drop x.1) (kL g.ns x.2.1) x.2.2.1 = srch (keysE false g.ns) a b, 7,
            ⟨(0, L, n, M1, ns), [some 5, some 6], ⟨hI, hi, Nat.zero_le _, Nat.le_add_right_of_le hn2, hres⟩, ?_⟩, fun _ => rfl, fun ⟨t, L', n', M1', ns'⟩ ⟨hI', hi', ht, hn', hres'⟩ => ?_⟩
          · (repeat' (first | exact True.intro | rfl | assumption | exact mc_ok rfl | exact mr_ok | exact fun _ => rfl | (refine And.intro ?_ ?_) | (intro _ _; rfl) | ((conv => whnf); (first | exact True.intro | (refine And.intro ?_ ?_)))))
            all_goals first
              | exact congrArg List.length hK.symm
              | exact congrArg (fun l : List Bs => (l.length : Int)) hK.symm
              | (intro q _
                 show [V.str (K.getD q eS)] = [V.str ((keysE false ns nd1.key).getD q eS)]
                 rw [hK])
          clear hI hiL hn2 hres hLl hln hi hk hkm hM1 hK
          have hI' : RI g most L' n' M1' ns' := hI'
          have hi' : i < L'.length := hi'
          have ht : t ≤ K.length := ht
          have hn' : n' ≤ i * 100000 + t := hn'
          have hres' : goM (keysE false g.ns) b (fuel - (i + 1)) i (K.drop t) (kL g.ns L') n' = srch (keysE false g.ns) a b := hres'
          have hLl := hI'.len
          have hln := hI'.same.len
          have et := zero_add_toNat t
          have hnm := hI'.nm
          (conv => whnf)
          constructor
          · intro hh
            have htl : t < K.length := by have : (t : Int) < (K.length : Int) := of_decide_eq_true hh; omega
            obtain ⟨x, hx⟩ : ∃ x, x = K.getD t eS := ⟨_, rfl⟩
            have hdr : K.drop t = x :: K.drop (t + 1) := by
              rw [List.drop_eq_getElem_cons htl, hx, List.getD_eq_getElem?_getD, List.getElem?_eq_getElem htl]; rfl
            obtain ⟨j, hj, hjk⟩ := hch x (by rw [hx, List.getD_eq_getElem?_getD, List.getElem?_eq_getElem htl]; exact List.getElem_mem htl)
            have hij : idxI ns' x = (j : Int) := by rw [hI'.same.idx hdk]; exact idx_is hdk hj hjk
            have hxs : x.size ≤ 1000000 := by rw [← hjk]; have := hU.ks j hj; omega
            rw [hdr] at hres'
            have wt := wrap_inc htl (by omega)
            have wn : IntKind.i64.wrap ((n' : Int) + 1) = ((n' + 1 : Nat) : Int) := by rw [wrap_id (by omega) (by omega)]; rfl
            (conv => whnf)
            refine ⟨by show (0 : Int) ≤ (t : Int); omega, by show (t : Int) < (K.length : Int); omega, ?_⟩
            (conv => whnf)
            refine ⟨by rw [et]; exact htl, ?_⟩
            (conv => whnf)
            constructor
            · intro h1
              have h1 : (n' : Int) = most := of_decide_eq_true h1
              have hF := hE L' n' M1' ns' hI'
              have hgt := goM_gt (ch := keysE false g.ns) (to := b) (f := fuel - (i + 1)) (i := i) (k := x) (l := K.drop (t + 1)) (line := kL g.ns L') (n := n')
              rw [hres'] at hgt
              rw [show endR most (srch (keysE false g.ns) a b) = (false, most, 7) from if_pos (by omega)] at hF
              (conv => whnf)
              refine ⟨[], _, _, hF, ?_⟩
              (repeat' (first | exact True.intro | rfl | assumption | exact mc_ok rfl | exact mr_ok | exact fun _ => rfl | (refine And.intro ?_ ?_) | (intro _ _; rfl) | ((conv => whnf); (first | exact True.intro | (refine And.intro ?_ ?_)))))
            · intro h1
              have h1 : ¬ (n' : Int) = most := of_decide_eq_false h1
              (conv => whnf)
              constructor
              · intro h2
                have h2 : K.getD (0 + (t : Int).toNat) eS = b := of_decide_eq_true h2
                rw [et, ← hx] at h2
                have hF := hE L' n' M1' ns' hI'
                rw [goM_hit h2] at hres'
                rw [← hres', show endR most (true, n' + 1) = (true, ((n' + 1 : Nat) : Int), 0) from if_neg (by show ¬ most < ((n' + 1 : Nat) : Int); omega)] at hF
                (conv => whnf)
                refine ⟨[], _, _, hF, ?_⟩
                (repeat' (first | exact True.intro | rfl | assumption | exact mc_ok rfl | exact mr_ok | exact fun _ => rfl | (refine And.intro ?_ ?_) | (intro _ _; rfl) | ((conv => whnf); (first | exact True.intro | (refine And.intro ?_ ?_)))))
                all_goals exact wn.symm
              · intro h2
                have h2 : ¬ K.getD (0 + (t : Int).toNat) eS = b := of_decide_eq_false h2
                rw [et, ← hx] at h2
                rw [goM_miss h2] at hres'
                have hn1 : ((n' + 1 : Nat) : Int) ≤ most := by omega
                have hxx : K.getD (0 + (t : Int).toNat) eS = x := by rw [et, hx]
                have hzz : idxI ns' (K.getD (0 + (t : Int).toNat) eS) = (j : Int) := by rw [hxx]; exact hij
                have ej : 0 + (idxI ns' (K.getD (0 + (t : Int).toNat) eS)).toNat = j := by rw [hzz]; omega
                obtain ⟨nd2, hM2, hkey2, hmk2, _⟩ := hI'.gi.rows (show j < ns'.length by rw [hln]; exact hj)
                (conv => whnf)
                refine ⟨({ g with M1 := M1', ns := ns', sr := g.sr + 1 }, K.getD (0 + (t : Int).toNat) eS), [0, 1, 2, 3, 4], ⟨hI'.gt hU.gt, by show (K.getD (0 + (t : Int).toNat) eS).size ≤ 1000000; rw [hxx]; exact hxs⟩, rfl, by (repeat' (first | exact True.intro | rfl | assumption | exact mc_ok rfl | exact mr_ok | exact fun _ => rfl | (refine And.intro ?_ ?_) | (intro _ _; rfl) | ((conv => whnf); (first | exact True.intro | (refine And.intro ?_ ?_))))), by (repeat' (first | exact True.intro | rfl | assumption | exact mc_ok rfl | exact mr_ok | exact fun _ => rfl | (refine And.intro ?_ ?_) | (intro _ _; rfl) | ((conv => whnf); (first | exact True.intro | (refine And.intro ?_ ?_))))), ?_⟩
                (conv => whnf)
                (repeat (first | refine And.intro rfl ?_ | fail))
                (conv => whnf)
                refine ⟨by show 0 ≤ idxI ns' (K.getD (0 + (t : Int).toNat) eS); rw [hzz]; omega, by show idxI ns' (K.getD (0 + (t : Int).toNat) eS) < (ns'.length : Int); rw [hzz, hln]; omega, ?_⟩
                (conv => whnf)
                refine ⟨by show 0 + (idxI ns' (K.getD (0 + (t : Int).toNat) eS)).toNat < ns'.length; rw [ej, hln]; exact hj, ?_⟩
                (conv => whnf)
                refine ⟨ndL 4 nd2, by show (M1' (g.adr (0 + (idxI ns' (K.getD (0 + (t : Int).toNat) eS)).toNat))).map (ndL 4) = _; rw [ej, hM2]; rfl, ?_⟩
                (conv => whnf)
                constructor
                · intro h3
                  have h3 : nd2.mark ≠ g.sr + 1 := by
                    have h3 : (!decide (nd2.mark = g.sr + 1)) = true := h3
                    simpa using h3
                  rw [hmk2] at h3
                  have hnj : j ∉ L' := fun q => h3 ((hI'.mki j hj).2 q)
                  have hhb : ¬ hasB (kL g.ns L') x = true := fun q => hnj ((kL_has hdk hI'.lt hj).1 (by rw [hjk]; exact q))
                  rw [if_neg hhb] at hres'
                  have hst := (hI'.n hn1).step hj hM2 hnj
                  have hki : kL g.ns L' ++ [x] = kL g.ns (L' ++ [j]) := by unfold kL; rw [List.map_append, ← hjk]; rfl
                  rw [hki] at hres'
                  (conv => whnf)
                  refine ⟨ndL 4 nd2, by show (M1' (g.adr (0 + (idxI ns' (K.getD (0 + (t : Int).toNat) eS)).toNat))).map (ndL 4) = _; rw [ej, hM2]; rfl, ?_⟩
                  (conv => whnf)
                  refine ⟨fun q => (setF M1' (g.adr j) (some { nd2 with mark := g.sr + 1 }) q).map (ndL 4), ⟨by show (setF M1' (g.adr j) (some { nd2 with mark := g.sr + 1 }) (g.adr (0 + (idxI ns' (K.getD (0 + (t : Int).toNat) eS)).toNat))).map (ndL 4) = some (ndL 4 { nd2 with mark := g.sr + 1 }); rw [ej, setF_same]; rfl, fun q hq => (show (setF M1' (g.adr j) (some { nd2 with mark := g.sr + 1 }) q).map (ndL 4) = (M1' q).map (ndL 4) by rw [setF_ne (show q ≠ g.adr j from fun e => hq (by rw [e]; show _ = g.adr (0 + (idxI ns' (K.getD (0 + (t : Int).toNat) eS)).toNat); rw [ej]))])⟩, ?_⟩
                  (conv => whnf)
                  refine ⟨some (fun q => [.ap 3 (g.adr ((L' ++ [j]).getD q 0)) 0]), ?_⟩
                  (conv => whnf)
                  refine ⟨by decide, by show 0 + L'.length ≤ L'.length; omega, by show (L'.length + 1) * (8 + 1) ≤ 1000000000; omega, fun q hq => ?_, ?_⟩
                  · show ([.ap 3 (g.adr ((L' ++ [j]).getD q 0)) 0] : List V) = appF L'.length (fun q => [.ap 3 (g.adr (L'.getD (0 + q) 0)) 0]) (fun q => chunk [.ap 3 (g.adr (0 + (idxI ns' (K.getD (0 + (t : Int).toNat) eS)).toNat)) 0] 1 (0 + q)) q
                    rw [ej]
                    exact ln_push q hq
                  (conv => whnf)
                  refine ⟨(t + 1, L' ++ [j], n' + 1, _, _), [some 8, some 6], by show K.length - (t + 1) < K.length - t; omega, ⟨hst, by show i < (L' ++ [j]).length; rw [List.length_append]; omega, by show t + 1 ≤ K.length; omega, Nat.succ_le_succ hn', hres'⟩, ?_⟩
                  (repeat' (first | exact True.intro | rfl | assumption | exact mc_ok rfl | exact mr_ok | exact fun _ => rfl | (refine And.intro ?_ ?_) | (intro _ _; rfl) | ((conv => whnf); (first | exact True.intro | (refine And.intro ?_ ?_)))))
                  all_goals first
                    | exact wt.symm
                    | exact wn.symm
                    | exact List.length_set ..
                    | exact (show ((L' ++ [j]).length) = L'.length + 1 by rw [List.length_append]; rfl)
                · intro h3
                  have h3 : nd2.mark = g.sr + 1 := by
                    have h3 : (!decide (nd2.mark = g.sr + 1)) = false := h3
                    simpa using h3
                  rw [hmk2] at h3
                  have hyj : j ∈ L' := (hI'.mki j hj).1 h3
                  rw [if_pos (by rw [← hjk]; exact (kL_has hdk hI'.lt hj).2 hyj)] at hres'
                  (conv => whnf)
                  refine ⟨(t + 1, L', n' + 1, M1', ns'), [some 5, some 6], by show K.length - (t + 1) < K.length - t; omega, ⟨hI'.n hn1, hi', by show t + 1 ≤ K.length; omega, Nat.succ_le_succ hn', hres'⟩, ?_⟩
                  (repeat' (first | exact True.intro | rfl | assumption | exact mc_ok rfl | exact mr_ok | exact fun _ => rfl | (refine And.intro ?_ ?_) | (intro _ _; rfl) | ((conv => whnf); (first | exact True.intro | (refine And.intro ?_ ?_)))))
                  all_goals first | exact wt.symm | exact wn.symm
          · intro hh
            have hte : ¬ t < K.length := by have : ¬ (t : Int) < (K.length : Int) := of_decide_eq_false hh; omega
            rw [List.drop_eq_nil_of_le (by omega), goM_nil] at hres'
            have wi := wrap_inc (n := 1000000) (show i < 1000000 by omega) (by omega)
            (conv => whnf)
            refine ⟨(i + 1, L', n', M1', ns'), [some 5], by show g.ns.length + 1 - (i + 1) < g.ns.length + 1 - i; omega, ⟨hI', hi', by show n' ≤ (i + 1) * 100000; omega, hres'⟩, ?_⟩
            (repeat' (first | exact True.intro | rfl | assumption | exact mc_ok rfl | exact mr_ok | exact fun _ => rfl | (refine And.intro ?_ ?_) | (intro _ _; rfl) | ((conv => whnf); (first | exact True.intro | (refine And.intro ?_ ?_)))))
            all_goals exact wi.symm
        · intro hh
          have hi : ¬ i < L.length := by have : ¬ (i : Int) < (L.length : Int) := of_decide_eq_false hh; omega
          rw [goL_out (by unfold kL; rw [List.length_map]; exact hi)] at hres
          have hF := hE L n M1 ns hI
          have hnm := hI.nm
          rw [← hres, show endR most (false, n) = (false, (n : Int), 0) from if_neg (by show ¬ most < (n : Int); omega)] at hF
          (conv => whnf)
          refine ⟨[], _, _, hF, ?_⟩
          (repeat' (first | exact True.intro | rfl | assumption | exact mc_ok rfl | exact mr_ok | exact fun _ => rfl | (refine And.intro ?_ ?_) | (intro _ _; rfl) | ((conv => whnf); (first | exact True.intro | (refine And.intro ?_ ?_)))))
end Go.Proofs.Ytmgcpfljhcahoaa
