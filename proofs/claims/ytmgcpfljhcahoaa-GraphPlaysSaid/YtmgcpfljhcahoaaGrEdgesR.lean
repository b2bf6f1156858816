/- What the functions of package graph compute: Edges. -/
import Derived.Test.YtmgcpfljhcahoaaGrPrg6R
import Derived.Test.YtmgcpfljhcahoaaGrSortER
import Derived.Test.YtmgcpfljhcahoaaK4GraphPlays
namespace Go.Proofs.Ytmgcpfljhcahoaa
open Go Sy Tb Gr
set_option maxRecDepth 100000
set_option maxHeartbeats 4000000

theorem conEg : ConOk Try.prog (conOf [(46, inl Try.prog (conOf []) Try.f46), (47, SSortE.T)]) :=
  conOf_cons (inl_ok noGo mixed conOf_nil Try.func46 (by kernel_rfl)) (conOf_cons (LSpec.call SSortE_nt SSortE_ok) conOf_nil)
def SEdgesG : LSpec where
  X := GG × List Ed
  k := 5
  pre x := (GT x.1 x.1.ns.length ∧ 1 ≤ x.1.N) ∧ PU x.1.ns ∧ RelE x.1.ns x.2 ∧ x.2.length ≤ 70000
  args _ θ := [.ptr (θ 0) 0]
  objs x θ := x.1.objs θ
  out x θ R := R (.sl (θ 5) 0 2 x.2.length false) (x.1.all θ ++ [some (edR x.2)])
theorem SEdgesG_nt : SEdgesG.Nt := ⟨fun _ _ => rfl, by unfold SEdgesG GG.objs; (intros; simp only [ren_all] at *; try assumption), by unfold SEdgesG GG.all; (intros; simp only [ren_all] at *; try assumption)⟩
theorem ed_push {w : List Ed} {c : Ed} (q : Nat) (hq : q < w.length + 1) : ([.str ((w ++ [c]).getD q e00).1, .str ((w ++ [c]).getD q e00).2] : List V) = appF w.length (fun q => [.str (w.getD (0 + q) e00).1, .str (w.getD (0 + q) e00).2]) (fun q => chunk [.str c.1, .str c.2] 2 (0 + q)) q := by
  refine (push_view (F := fun s : Ed => ([.str s.1, .str s.2] : List V)) (d := e00) q hq).trans ?_
  by_cases h : q < w.length
  · rw [appF_lt h, appF_lt h]
  · rw [appF_ge (by omega), appF_ge (by omega), show q - w.length = 0 by omega]
    rfl
theorem szE_snoc {w : List Ed} {c : Ed} : (w ++ [c]).length = w.length + 1 := by rw [List.length_append]; rfl
theorem range_getD {α : Type} {l : List α} {d : α} : ((List.range l.length).map fun j => l.getD j d) = l := by
  apply List.ext_getElem?
  intro k
  rw [List.getElem?_map]
  rcases Nat.lt_or_ge k l.length with g | g
  · rw [List.getElem?_range g, Option.map_some, List.getD_eq_getElem?_getD, List.getElem?_eq_getElem g]
    rfl
  · rw [List.getElem?_eq_none (by simpa using g), List.getElem?_eq_none g]
    rfl
theorem SEdgesG_ok : SEdgesG.Ok Try.prog 22 := by
  refine LSpec.of_body noGo mixed conEg Try.func22 rfl (by kernel_rfl) fun ⟨g, E⟩ R ⟨⟨hG, hN⟩, hP, hE, hl⟩ hR => ?_
  have hG : GT g g.ns.length := hG
  have hN : 1 ≤ g.N := hN
  have hP : PU g.ns := hP
  have hE : RelE g.ns E := hE
  have hl : E.length ≤ 70000 := hl
  have hgi := hG.gi
  have hnl := hG.nle
  have hperm := hE.perm hP
  have hW := hperm.length_eq
  have hQ : R (.sl 5 0 2 E.length false) (g.all _root_.id ++ [some (edR E)]) := hR
  (conv => whnf)
  refine ⟨fun hh => absurd (show decide (g.N = 0) = true from hh) (by rw [decide_eq_false (by omega)]; decide), fun _ => ?_⟩
  (conv => whnf)
  refine .inl ⟨Nat × List Ed, fun x => [(0, .ptr 0 0), (3, .sl 5 0 2 x.2.length false), (13, .sl 1 0 1 g.ns.length false), (14, i64 g.ns.length), (15, i64 x.1)], fun x => g.all _root_.id ++ [some (edR x.2)], fun x => g.ns.length - x.1, fun x => x.1 ≤ g.ns.length ∧ x.2 = edN g.ns x.1, 6, ⟨(0, []), [none], ⟨Nat.zero_le _, rfl⟩, ?_⟩, fun _ => rfl, fun ⟨i, O⟩ ⟨hi, hO⟩ => ?_⟩
  · (repeat' (first | exact True.intro | rfl | assumption | exact mc_ok rfl | exact mr_ok | exact fun _ => rfl | (refine And.intro ?_ ?_) | (intro _ _; rfl) | ((conv => whnf); (first | exact True.intro | (refine And.intro ?_ ?_)))))
  have hi : i ≤ g.ns.length := hi
  have hO : O = edN g.ns i := hO
  have ei := zero_add_toNat i
  (conv => whnf)
  constructor
  · intro h
    have h : i < g.ns.length := by have : (i : Int) < (g.ns.length : Int) := of_decide_eq_true h; omega
    obtain ⟨nd, hM, hkey, hmk, hd, hu⟩ := hgi.rows h
    have hs1 := edN_succ (ns := g.ns) i
    have hm1 := edN_mono (ns := g.ns) (n := g.ns.length) (i := i + 1) (by omega)
    obtain ⟨ls, hls⟩ : ∃ ls, ls = lsE false (g.ns.getD i ns0) := ⟨_, rfl⟩
    have hrow : ∃ o id', RowIs g.M2 o id' (rowE false nd) ls := by rw [hls]; exact hd
    obtain ⟨o, id', r1, r2⟩ := hrow
    have hlt : ∀ b ∈ ls, b < g.ns.length := by rw [hls]; exact hP.lt false i h
    have hF : edF1 g.ns i = ls.map fun j => (keyAt g.ns i, keyAt g.ns j) := by rw [hls]; rfl
    rw [hs1, hF, ← hO, List.length_append, List.length_map] at hm1
    rw [hF, ← hO] at hs1
    clear hd hu hls hF
    obtain ⟨s, hs⟩ : ∃ s, s = rowE false nd := ⟨_, rfl⟩
    rw [← hs] at r1 r2
    (conv => whnf)
    refine ⟨by show (0 : Int) ≤ (i : Int); omega, by show (i : Int) < (g.ns.length : Int); omega, ?_⟩
    (conv => whnf)
    refine ⟨by rw [ei]; exact h, ?_⟩
    (conv => whnf)
    refine ⟨ndL 4 nd, by show (g.M1 (g.adr (0 + (i : Int).toNat))).map (ndL 4) = _; rw [ei, hM]; rfl, ?_⟩
    (conv => whnf)
    refine .inl ⟨Nat × List Ed, fun x => [(0, .ptr 0 0), (3, .sl 5 0 2 x.2.length false), (5, .ap 3 (g.adr (0 + (i : Int).toNat)) 0), (13, .sl 1 0 1 g.ns.length false), (14, i64 g.ns.length), (15, i64 i), (23, ndV 4 s), (24, i64 s.2.1), (25, i64 x.1)], fun x => g.all _root_.id ++ [some (edR x.2)], fun x => ls.length - x.1, fun x => x.1 ≤ ls.length ∧ x.2 = O ++ (ls.take x.1).map fun j => (keyAt g.ns i, keyAt g.ns j), 6, ⟨(0, O), [some 5], ⟨Nat.zero_le _, (List.append_nil O).symm⟩, ?_⟩, fun _ => rfl, fun ⟨t, Q⟩ ⟨ht, hq⟩ => ?_⟩
    · (repeat' (first | exact True.intro | rfl | assumption | exact mc_ok rfl | exact mr_ok | exact fun _ => rfl | (refine And.intro ?_ ?_) | (intro _ _; rfl) | ((conv => whnf); (first | exact True.intro | (refine And.intro ?_ ?_)))))
      all_goals (rw [hs]; rfl)
    have ht : t ≤ ls.length := ht
    have hq : Q = O ++ (ls.take t).map fun j => (keyAt g.ns i, keyAt g.ns j) := hq
    have et := zero_add_toNat t
    (conv => whnf)
    constructor
    · intro h2
      have h2 : t < ls.length := by have : (t : Int) < (s.2.1 : Int) := of_decide_eq_true h2; omega
      have hQl : Q.length ≤ 70000 := by rw [hq, List.length_append, List.length_map, List.length_take]; omega
      obtain ⟨b, C, hb, hMb, hc, hC, _⟩ := r2.resolve_left fun g => by rw [g.1] at h2; exact absurd h2 (Nat.not_lt_zero _)
      have ex : (ls.map Int.ofNat).getD (0 + (t : Int).toNat) 0 = ((ls.getD t 0 : Nat) : Int) := by rw [et]; exact map_getD ls t
      have hin : ls.getD t 0 < g.ns.length := hlt _ (by rw [List.getD_eq_getElem?_getD, List.getElem?_eq_getElem h2]; exact List.getElem_mem h2)
      obtain ⟨nd2, hM2, hkey2⟩ := hgi.nd hin
      have ey : 0 + ((ls.getD t 0 : Nat) : Int).toNat = ls.getD t 0 := by simp
      have hstep : Q ++ [(keyAt g.ns i, keyAt g.ns (ls.getD t 0))] = O ++ (ls.take (t + 1)).map fun j => (keyAt g.ns i, keyAt g.ns j) := by
        rw [hq, take_get (d := 0) h2, List.append_assoc]
      (conv => whnf)
      refine ⟨by show (0 : Int) ≤ (t : Int); omega, by show (t : Int) < (s.2.1 : Int); omega, b, 0, by show s.1.map (fun b => (b, 0)) = _; rw [hb]; rfl, ?_⟩
      (conv => whnf)
      refine ⟨(ls.map Int.ofNat).length, C, fun q => [i64 ((ls.map Int.ofNat).getD q 0)], by show (g.M2 b).map rwL = _; rw [hMb]; rfl, by rw [List.length_map]; show 0 + (t : Int).toNat < _; omega, ?_⟩
      (conv => whnf)
      refine ⟨ndL 4 nd, by show (g.M1 (g.adr (0 + (i : Int).toNat))).map (ndL 4) = _; rw [ei, hM]; rfl, ?_⟩
      (conv => whnf)
      refine ⟨by rw [ex]; omega, by rw [ex]; show ((ls.getD t 0 : Nat) : Int) < (g.ns.length : Int); omega, ?_⟩
      (conv => whnf)
      refine ⟨by rw [ex, ey]; exact hin, ?_⟩
      (conv => whnf)
      refine ⟨ndL 4 nd2, by show (g.M1 (g.adr (0 + ((ls.map Int.ofNat).getD (0 + (t : Int).toNat) 0).toNat))).map (ndL 4) = _; rw [ex, ey, hM2]; rfl, ?_⟩
      (conv => whnf)
      (repeat (first | refine And.intro rfl ?_ | fail))
      (conv => whnf)
      refine ⟨some (fun q => [.str ((Q ++ [(nd.key, nd2.key)]).getD q e00).1, .str ((Q ++ [(nd.key, nd2.key)]).getD q e00).2]), ?_⟩
      (conv => whnf)
      refine ⟨by decide, by show 0 + Q.length ≤ Q.length; omega, by show (Q.length + 1) * (32 + 2) ≤ 1000000000; omega, fun q hq => ed_push q hq, ?_⟩
      (conv => whnf)
      refine ⟨(t + 1, Q ++ [(nd.key, nd2.key)]), [some 7], by show ls.length - (t + 1) < ls.length - t; omega, ⟨by show t + 1 ≤ ls.length; omega, ?_⟩, ?_⟩
      · show Q ++ [(nd.key, nd2.key)] = _
        rw [← hstep, show nd.key = keyAt g.ns i from hkey, hkey2]
      (repeat' (first | exact True.intro | rfl | assumption | exact mc_ok rfl | exact mr_ok | exact fun _ => rfl | (refine And.intro ?_ ?_) | (intro _ _; rfl) | ((conv => whnf); (first | exact True.intro | (refine And.intro ?_ ?_)))))
      all_goals first | exact (wrap_inc h2 (by omega)).symm | exact szE_snoc
    · intro h2
      have h2 : ¬ t < ls.length := by have : ¬ (t : Int) < (s.2.1 : Int) := of_decide_eq_false h2; omega
      rw [List.take_of_length_le (by omega), ← hs1] at hq
      (conv => whnf)
      refine ⟨(i + 1, Q), [some 5], by show g.ns.length - (i + 1) < g.ns.length - i; omega, ⟨by show i + 1 ≤ g.ns.length; omega, hq⟩, ?_⟩
      (repeat' (first | exact True.intro | rfl | assumption | exact mc_ok rfl | exact mr_ok | exact fun _ => rfl | (refine And.intro ?_ ?_) | (intro _ _; rfl) | ((conv => whnf); (first | exact True.intro | (refine And.intro ?_ ?_)))))
      all_goals exact (wrap_inc h (by omega)).symm
  · intro h
    have h : ¬ i < g.ns.length := by have : ¬ (i : Int) < (g.ns.length : Int) := of_decide_eq_false h; omega
    have hie : i = g.ns.length := by omega
    subst hie
    rw [← hO] at hperm hW
    (conv => whnf)
    refine ⟨(O.length, fun j => O.getD j e00), [5], by show O.length ≤ 1000000; omega, rfl, by (repeat' (first | exact True.intro | rfl | assumption | exact mc_ok rfl | exact mr_ok | exact fun _ => rfl | (refine And.intro ?_ ?_) | (intro _ _; rfl) | ((conv => whnf); (first | exact True.intro | (refine And.intro ?_ ?_))))), by (repeat' (first | exact True.intro | rfl | assumption | exact mc_ok rfl | exact mr_ok | exact fun _ => rfl | (refine And.intro ?_ ?_) | (intro _ _; rfl) | ((conv => whnf); (first | exact True.intro | (refine And.intro ?_ ?_))))), fun D' q1 q2 => ?_⟩
    have hD : ((List.range O.length).map D') = E := by
      rw [range_getD] at q1
      refine srtE_uniq (q1.trans hperm) hE.srt (List.pairwise_iff_getElem.2 fun i j hi hj hij => ?_)
      rw [List.length_map, List.length_range] at hi hj
      simp only [List.getElem_map, List.getElem_range]
      exact q2 i j hij hj
    have hlen : E.length = O.length := hW.symm
    have hget : ∀ j, j < E.length → E.getD j e00 = D' j := fun j hj => by
      rw [← hD, List.getD_eq_getElem?_getD, List.getElem?_map, List.getElem?_range (by omega)]
      rfl
    (conv => whnf)
    refine ⟨[some 5], _, _, hQ, ?_⟩
    (repeat' (first | exact True.intro | rfl | assumption | exact mc_ok rfl | exact mr_ok | exact fun _ => rfl | (refine And.intro ?_ ?_) | (intro _ _; rfl) | ((conv => whnf); (first | exact True.intro | (refine And.intro ?_ ?_)))))
    all_goals first
      | exact hlen
      | (intro j hj
         show edL (E.getD j e00) = edL (D' j)
         rw [hget j hj])
end Go.Proofs.Ytmgcpfljhcahoaa
