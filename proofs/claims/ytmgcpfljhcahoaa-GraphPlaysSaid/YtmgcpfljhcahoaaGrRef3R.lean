/- What the reference of graphs computes: Nodes, Search, Reaches. -/
import Derived.Test.YtmgcpfljhcahoaaGrRef2R
namespace Go.Proofs.Ytmgcpfljhcahoaa
open Go Sy Tb Gr
set_option maxRecDepth 100000
set_option maxHeartbeats 4000000

theorem conRN : ConOk Try.prog (conOf [(41, SRHas.T), (57, SRSorted.T)]) :=
  conOf_cons (LSpec.call SRHas_nt SRHas_ok) (conOf_cons (LSpec.call SRSorted_nt SRSorted_ok) conOf_nil)
def SRNodes : LSpec where
  X := Int × Int × List Ed
  k := 1
  pre x := x.2.2.length ≤ 10000
  args x θ := [rgV (θ 0) x.1 x.2.1 x.2.2]
  objs x _ := [edR x.2.2]
  out x θ R := R (.sl (θ 1) 0 1 (sortK (ndsE x.2.2)).length false) [some (edR x.2.2), some (stR (sortK (ndsE x.2.2)))]
theorem SRNodes_nt : SRNodes.Nt := ⟨fun _ _ => rfl, fun _ _ => rfl, fun _ _ _ h => h⟩
theorem addK_in {l : List Bs} {k : Bs} (h : hasB l k = true) : addK l k = l := if_pos h
theorem addK_out {l : List Bs} {k : Bs} (h : hasB l k = false) : addK l k = l ++ [k] := if_neg (by rw [h]; exact Bool.false_ne_true)
theorem SRNodes_ok : SRNodes.Ok Try.prog 35 := by
  refine LSpec.of_bodyC [7] noGo mixed conRN Try.func35 rfl (by kernel_rfl) fun ⟨N, M, E⟩ R hl hR => ?_
  have hl : E.length ≤ 10000 := hl
  have hQ : R (.sl 1 0 1 (sortK (ndsE E)).length false) [some (edR E), some (stR (sortK (ndsE E)))] := hR
  (conv => whnf)
  refine .inl ⟨Nat × List Bs, fun x => [(1, .ptr 1 0), (3, .sl 2 0 1 x.2.length false), (4, i64 x.1)], fun x => [some (edR E), some (.cells [i64 N, i64 M, .sl 0 0 2 E.length false] 32), some (stR x.2)], fun x => E.length - x.1, fun x => x.1 ≤ E.length ∧ x.2 = ndsE (E.take x.1), 3, ⟨(0, []), [some 1, none], ⟨Nat.zero_le _, rfl⟩, ?_⟩, fun _ => rfl, fun ⟨i, o⟩ ⟨hi, ho⟩ => ?_⟩
  · (repeat' (first | exact True.intro | rfl | assumption | exact mc_ok rfl | exact mr_ok | exact fun _ => rfl | (refine And.intro ?_ ?_) | (intro _ _; rfl) | ((conv => whnf); (first | exact True.intro | (refine And.intro ?_ ?_)))))
  have hi : i ≤ E.length := hi
  have ho : o = ndsE (E.take i) := ho
  have ei := zero_add_toNat i
  have hol : o.length ≤ 20000 := by have := nds_len (E.take i); have := take_le E i; rw [ho]; omega
  (conv => whnf)
  constructor
  · intro h
    have h : i < E.length := by have : (i : Int) < (E.length : Int) := of_decide_eq_true h; omega
    have hs := ndA_succ h
    rw [← ho] at hs
    have hE : ∀ q, E.getD (0 + (i : Int).toNat) q = E.getD i q := fun q => by rw [ei]
    (conv => whnf)
    refine ⟨Unit, fun _ => [(1, .ptr 1 0), (3, .sl 2 0 1 (addK o (E.getD i e00).1).length false), (4, i64 i)], fun _ => [some (edR E), some (.cells [i64 N, i64 M, .sl 0 0 2 E.length false] 32), some (stR (addK o (E.getD i e00).1))], fun _ => True, 3, fun _ => rfl, ?_, fun _ _ => ?_⟩
    · (conv => whnf)
      refine ⟨by show (0 : Int) ≤ (i : Int); omega, by show (i : Int) < (E.length : Int); omega, ?_⟩
      (conv => whnf)
      refine ⟨by rw [ei]; exact h, ?_⟩
      (conv => whnf)
      refine ⟨(o, (E.getD i e00).1), [2], by show o.length ≤ 1000000; omega, rfl, ?_, by (repeat' (first | exact True.intro | rfl | assumption | exact mc_ok rfl | exact mr_ok | exact fun _ => rfl | (refine And.intro ?_ ?_) | (intro _ _; rfl) | ((conv => whnf); (first | exact True.intro | (refine And.intro ?_ ?_))))), ?_⟩
      · (repeat' (first | exact True.intro | rfl | assumption | exact mc_ok rfl | exact mr_ok | exact fun _ => rfl | (refine And.intro ?_ ?_) | (intro _ _; rfl) | ((conv => whnf); (first | exact True.intro | (refine And.intro ?_ ?_)))))
        exact congrArg (fun e : Ed => V.str e.1) (hE e00).symm
      (conv => whnf)
      constructor
      · intro h2
        have h2 : hasB o (E.getD i e00).1 = false := not_t h2
        rw [addK_out h2]
        (conv => whnf)
        refine ⟨by show (0 : Int) ≤ (i : Int); omega, by show (i : Int) < (E.length : Int); omega, ?_⟩
        (conv => whnf)
        refine ⟨by rw [ei]; exact h, ?_⟩
        (conv => whnf)
        refine ⟨some (fun q => [.str ((o ++ [(E.getD i e00).1]).getD q eS)]), ?_⟩
        (conv => whnf)
        refine ⟨by decide, by show 0 + o.length ≤ o.length; omega, by show (o.length + 1) * (16 + 1) ≤ 1000000000; omega, fun q hq => ?_, ?_⟩
        · show ([.str ((o ++ [(E.getD i e00).1]).getD q eS)] : List V) = appF o.length (fun q => [.str (o.getD (0 + q) eS)]) (fun q => chunk [.str (E.getD (0 + (i : Int).toNat) (eS, eS)).1] 1 (0 + q)) q
          rw [ei]
          exact st_push q hq
        (conv => whnf)
        refine ⟨(), [some 1, some 4], trivial, ?_⟩
        (repeat' (first | exact True.intro | rfl | assumption | exact mc_ok rfl | exact mr_ok | exact fun _ => rfl | (refine And.intro ?_ ?_) | (intro _ _; rfl) | ((conv => whnf); (first | exact True.intro | (refine And.intro ?_ ?_)))))
        all_goals exact szL_snoc
      · intro h2
        have h2 : hasB o (E.getD i e00).1 = true := not_f h2
        rw [addK_in h2]
        (conv => whnf)
        refine ⟨(), [some 1, some 2], trivial, ?_⟩
        (repeat' (first | exact True.intro | rfl | assumption | exact mc_ok rfl | exact mr_ok | exact fun _ => rfl | (refine And.intro ?_ ?_) | (intro _ _; rfl) | ((conv => whnf); (first | exact True.intro | (refine And.intro ?_ ?_)))))
    · have ho2 := addK_len o (E.getD i e00).1
      generalize addK o (E.getD i e00).1 = o2 at *
      (conv => whnf)
      refine ⟨by show (0 : Int) ≤ (i : Int); omega, by show (i : Int) < (E.length : Int); omega, ?_⟩
      (conv => whnf)
      refine ⟨by rw [ei]; exact h, ?_⟩
      (conv => whnf)
      refine ⟨(o2, (E.getD i e00).2), [2], by show o2.length ≤ 1000000; omega, rfl, ?_, by (repeat' (first | exact True.intro | rfl | assumption | exact mc_ok rfl | exact mr_ok | exact fun _ => rfl | (refine And.intro ?_ ?_) | (intro _ _; rfl) | ((conv => whnf); (first | exact True.intro | (refine And.intro ?_ ?_))))), ?_⟩
      · (repeat' (first | exact True.intro | rfl | assumption | exact mc_ok rfl | exact mr_ok | exact fun _ => rfl | (refine And.intro ?_ ?_) | (intro _ _; rfl) | ((conv => whnf); (first | exact True.intro | (refine And.intro ?_ ?_)))))
        exact congrArg (fun e : Ed => V.str e.2) (hE e00).symm
      (conv => whnf)
      constructor
      · intro h2
        have h2 : hasB o2 (E.getD i e00).2 = false := not_t h2
        rw [addK_out h2] at hs
        (conv => whnf)
        refine ⟨by show (0 : Int) ≤ (i : Int); omega, by show (i : Int) < (E.length : Int); omega, ?_⟩
        (conv => whnf)
        refine ⟨by rw [ei]; exact h, ?_⟩
        (conv => whnf)
        refine ⟨some (fun q => [.str ((o2 ++ [(E.getD i e00).2]).getD q eS)]), ?_⟩
        (conv => whnf)
        refine ⟨by decide, by show 0 + o2.length ≤ o2.length; omega, by show (o2.length + 1) * (16 + 1) ≤ 1000000000; omega, fun q hq => ?_, ?_⟩
        · show ([.str ((o2 ++ [(E.getD i e00).2]).getD q eS)] : List V) = appF o2.length (fun q => [.str (o2.getD (0 + q) eS)]) (fun q => chunk [.str (E.getD (0 + (i : Int).toNat) (eS, eS)).2] 1 (0 + q)) q
          rw [ei]
          exact st_push q hq
        (conv => whnf)
        refine ⟨(i + 1, o2 ++ [(E.getD i e00).2]), [some 1, some 4], by show E.length - (i + 1) < E.length - i; omega, ⟨by show i + 1 ≤ E.length; omega, hs.symm⟩, ?_⟩
        (repeat' (first | exact True.intro | rfl | assumption | exact mc_ok rfl | exact mr_ok | exact fun _ => rfl | (refine And.intro ?_ ?_) | (intro _ _; rfl) | ((conv => whnf); (first | exact True.intro | (refine And.intro ?_ ?_)))))
        all_goals first | exact (wrap_inc h (by omega)).symm | exact szL_snoc
      · intro h2
        have h2 : hasB o2 (E.getD i e00).2 = true := not_f h2
        rw [addK_in h2] at hs
        (conv => whnf)
        refine ⟨(i + 1, o2), [some 1, some 2], by show E.length - (i + 1) < E.length - i; omega, ⟨by show i + 1 ≤ E.length; omega, hs.symm⟩, ?_⟩
        (repeat' (first | exact True.intro | rfl | assumption | exact mc_ok rfl | exact mr_ok | exact fun _ => rfl | (refine And.intro ?_ ?_) | (intro _ _; rfl) | ((conv => whnf); (first | exact True.intro | (refine And.intro ?_ ?_)))))
        all_goals exact (wrap_inc h (by omega)).symm
  · intro h
    have h : ¬ i < E.length := by have : ¬ (i : Int) < (E.length : Int) := of_decide_eq_false h; omega
    have e : o = ndsE E := by rw [ho, List.take_of_length_le (by omega)]
    subst e
    (conv => whnf)
    refine ⟨ndsE E, [2], by show (ndsE E).length ≤ 30000; omega, rfl, by (repeat' (first | exact True.intro | rfl | assumption | exact mc_ok rfl | exact mr_ok | exact fun _ => rfl | (refine And.intro ?_ ?_) | (intro _ _; rfl) | ((conv => whnf); (first | exact True.intro | (refine And.intro ?_ ?_))))), by (repeat' (first | exact True.intro | rfl | assumption | exact mc_ok rfl | exact mr_ok | exact fun _ => rfl | (refine And.intro ?_ ?_) | (intro _ _; rfl) | ((conv => whnf); (first | exact True.intro | (refine And.intro ?_ ?_))))), ?_⟩
    (conv => whnf)
    refine ⟨[some 3], _, _, hQ, ?_⟩
    (repeat' (first | exact True.intro | rfl | assumption | exact mc_ok rfl | exact mr_ok | exact fun _ => rfl | (refine And.intro ?_ ?_) | (intro _ _; rfl) | ((conv => whnf); (first | exact True.intro | (refine And.intro ?_ ?_)))))

/-! The search -/
theorem conRS : ConOk Try.prog (conOf [(37, SRChildren.T), (41, SRHas.T)]) :=
  conOf_cons (LSpec.call SRChildren_nt SRChildren_ok) (conOf_cons (LSpec.call SRHas_nt SRHas_ok) conOf_nil)
structure LI (E : List Ed) (a : Bs) (L : List Bs) : Prop where
  nd : L.Nodup
  sub : ∀ x ∈ L, x = a ∨ ∃ e ∈ E, x = e.2
theorem LI.len {E : List Ed} {a : Bs} {L : List Bs} (h : LI E a L) : L.length ≤ E.length + 1 := by
  have h2 : ∀ x ∈ L, x ∈ a :: E.map (·.2) := fun x hx => by
    rcases h.sub x hx with rfl | ⟨e, he, rfl⟩
    · exact List.mem_cons_self ..
    · exact List.mem_cons_of_mem _ (List.mem_map.2 ⟨e, he, rfl⟩)
  have := nodup_sub h.nd h2
  rwa [List.length_cons, List.length_map] at this
theorem LI.add {E : List Ed} {a : Bs} {L : List Bs} (h : LI E a L) {x : Bs} (hx : ∃ e ∈ E, x = e.2) (hn : hasB L x = false) : LI E a (L ++ [x]) := by
  have h1 : L ++ [x] = addK L x := (addK_out hn).symm
  rw [h1]
  refine ⟨addK_nodup h.nd, fun y hy => ?_⟩
  rcases addK_mem.1 hy with hy | rfl
  · exact h.sub y hy
  · exact .inr hx
def SRSearch : LSpec where
  X := (Int × Int × List Ed) × Bs × Bs
  k := 1
  pre x := x.1.2.2.length ≤ 10000
  args x θ := [rgV (θ 0) x.1.1 x.1.2.1 x.1.2.2, .str x.2.1, .str x.2.2]
  objs x _ := [edR x.1.2.2]
  out x _ R := R (.tup [.sb (srch (chE x.1.2.2) x.2.1 x.2.2).1, i64 ((srch (chE x.1.2.2) x.2.1 x.2.2).2 : Nat)]) [some (edR x.1.2.2)]
theorem SRSearch_nt : SRSearch.Nt := ⟨fun _ _ => rfl, fun _ _ => rfl, fun _ _ _ h => h⟩
theorem SRSearch_ok : SRSearch.Ok Try.prog 17 := by
  refine LSpec.of_body noGo mixed conRS Try.func17 rfl (by kernel_rfl) fun ⟨⟨N, M, E⟩, a, b⟩ R hl hR => ?_
  have hl : E.length ≤ 10000 := hl
  obtain ⟨res, hres0⟩ : ∃ r, r = srch (chE E) a b := ⟨_, rfl⟩
  have hQ : R (.tup [.sb res.1, i64 (res.2 : Nat)]) [some (edR E)] := by rw [hres0]; exact hR
  (conv => whnf)
  refine .inl ⟨Nat × List Bs × Nat, fun x => [(2, .str b), (3, .ptr 1 0), (8, .sl 2 0 1 x.2.1.length false), (9, i64 x.2.2), (10, i64 x.1)], fun x => [some (edR E), some (.cells [i64 N, i64 M, .sl 0 0 2 E.length false] 32), some (stR x.2.1)], fun x => E.length + 2 - x.1,
    fun x => LI E a x.2.1 ∧ x.1 ≤ x.2.1.length ∧ x.2.2 ≤ x.1 * 10000 ∧ goL (chE E) b (fuel - x.1) x.1 x.2.1 x.2.2 = res, 3, ⟨(0, [a], 0), [some 1, some 2], ⟨⟨List.pairwise_singleton .., fun x hx => .inl (List.mem_singleton.1 hx)⟩, Nat.zero_le _, Nat.zero_le _, hres0.symm⟩, ?_⟩, fun _ => rfl, fun ⟨i, L, n⟩ ⟨hL, hi, hn, hres⟩ => ?_⟩
  · (repeat' (first | exact True.intro | rfl | assumption | exact mc_ok rfl | exact mr_ok | exact fun _ => rfl | (refine And.intro ?_ ?_) | (intro _ _; rfl) | ((conv => whnf); (first | exact True.intro | (refine And.intro ?_ ?_)))))
    all_goals (intro j hj; obtain rfl : j = 0 := by have : j < 1 := hj; omega
               rfl)
  have hL : LI E a L := hL
  have hi : i ≤ L.length := hi
  have hn : n ≤ i * 10000 := hn
  have hres : goL (chE E) b (fuel - i) i L n = res := hres
  have hLl := hL.len
  have ei := zero_add_toNat i
  (conv => whnf)
  constructor
  · intro h
    have h : i < L.length := by have : (i : Int) < (L.length : Int) := of_decide_eq_true h; omega
    have hf : fuel - i = fuel - (i + 1) + 1 := by have : fuel = 200000 := rfl; omega
    rw [hf, goL_in h] at hres
    (conv => whnf)
    refine ⟨by show (0 : Int) ≤ (i : Int); omega, by show (i : Int) < (L.length : Int); omega, ?_⟩
    (conv => whnf)
    refine ⟨by rw [ei]; exact h, ?_⟩
    (conv => whnf)
    refine ⟨((N, M, E), L.getD i eS), [0], by show E.length ≤ 20000; omega, rfl, ?_, by (repeat' (first | exact True.intro | rfl | assumption | exact mc_ok rfl | exact mr_ok | exact fun _ => rfl | (refine And.intro ?_ ?_) | (intro _ _; rfl) | ((conv => whnf); (first | exact True.intro | (refine And.intro ?_ ?_))))), ?_⟩
    · (repeat' (first | exact True.intro | rfl | assumption | exact mc_ok rfl | exact mr_ok | exact fun _ => rfl | (refine And.intro ?_ ?_) | (intro _ _; rfl) | ((conv => whnf); (first | exact True.intro | (refine And.intro ?_ ?_)))))
      rw [ei]
      rfl
    have hK : ∀ x ∈ chE E (L.getD i eS), ∃ e ∈ E, x = e.2 := fun x hx => ⟨_, mem_chE.1 hx, rfl⟩
    have hKl := chE_len E (L.getD i eS)
    have hres : goM (chE E) b (fuel - (i + 1)) i (chE E (L.getD i eS)) L n = res := hres
    generalize hKd : chE E (L.getD i eS) = K at *
    (conv => whnf)
    refine .inl ⟨Nat × List Bs × Nat, fun x => [(2, .str b), (3, .ptr 1 0), (8, .sl 2 0 1 x.2.1.length false), (9, i64 x.2.2), (10, i64 i), (11, .sl 3 0 1 K.length false), (12, i64 x.1)], fun x => [some (edR E), some (.cells [i64 N, i64 M, .sl 0 0 2 E.length false] 32), some (stR x.2.1), some (stR K)], fun x => K.length - x.1,
      fun x => LI E a x.2.1 ∧ i < x.2.1.length ∧ x.1 ≤ K.length ∧ x.2.2 ≤ i * 10000 + x.1 ∧ goM (chE E) b (fuel - (i + 1)) i (K.drop x.1) x.2.1 x.2.2 = res, 4, ⟨(0, L, n), [some 1, some 2, some 3], ⟨hL, h, Nat.zero_le _, Nat.le_add_right_of_le hn, hres⟩, ?_⟩, fun _ => rfl, fun ⟨t, L', n'⟩ ⟨hL', hi', ht, hn', hres'⟩ => ?_⟩
    · (repeat' (first | exact True.intro | rfl | assumption | exact mc_ok rfl | exact mr_ok | exact fun _ => rfl | (refine And.intro ?_ ?_) | (intro _ _; rfl) | ((conv => whnf); (first | exact True.intro | (refine And.intro ?_ ?_)))))
      all_goals first
        | exact congrArg List.length hKd.symm
        | exact congrArg (fun l : List Bs => (l.length : Int)) hKd.symm
        | (intro q _
           show [V.str (K.getD q eS)] = [V.str ((chE E (L.getD i eS)).getD q eS)]
           rw [hKd])
    clear hL hi hn hres hLl h
    have hL' : LI E a L' := hL'
    have hi' : i < L'.length := hi'
    have ht : t ≤ K.length := ht
    have hn' : n' ≤ i * 10000 + t := hn'
    have hres' : goM (chE E) b (fuel - (i + 1)) i (K.drop t) L' n' = res := hres'
    have hLl := hL'.len
    have et := zero_add_toNat t
    (conv => whnf)
    constructor
    · intro hh
      have htl : t < K.length := by have : (t : Int) < (K.length : Int) := of_decide_eq_true hh; omega
      obtain ⟨x, hx⟩ : ∃ x, x = K.getD t eS := ⟨_, rfl⟩
      have hdr : K.drop t = x :: K.drop (t + 1) := by
        rw [List.drop_eq_getElem_cons htl, hx, List.getD_eq_getElem?_getD, List.getElem?_eq_getElem htl]; rfl
      have hxE := hK x (by rw [hx, List.getD_eq_getElem?_getD, List.getElem?_eq_getElem htl]; exact List.getElem_mem htl)
      rw [hdr] at hres'
      have wt := wrap_inc htl (by omega)
      have wn : IntKind.i64.wrap ((n' : Int) + 1) = ((n' + 1 : Nat) : Int) := by rw [wrap_id (by omega) (by omega)]; rfl
      have hxx : K.getD (0 + (t : Int).toNat) eS = x := by rw [et, hx]
      (conv => whnf)
      refine ⟨by show (0 : Int) ≤ (t : Int); omega, by show (t : Int) < (K.length : Int); omega, ?_⟩
      (conv => whnf)
      refine ⟨by rw [et]; exact htl, ?_⟩
      (conv => whnf)
      constructor
      · intro h2
        have h2 : K.getD (0 + (t : Int).toNat) eS = b := of_decide_eq_true h2
        rw [hxx] at h2
        rw [goM_hit h2] at hres'
        subst hres'
        (conv => whnf)
        refine ⟨[], _, _, hQ, ?_⟩
        (repeat' (first | exact True.intro | rfl | assumption | exact mc_ok rfl | exact mr_ok | exact fun _ => rfl | (refine And.intro ?_ ?_) | (intro _ _; rfl) | ((conv => whnf); (first | exact True.intro | (refine And.intro ?_ ?_)))))
        all_goals exact wn.symm
      · intro h2
        have h2 : ¬ K.getD (0 + (t : Int).toNat) eS = b := of_decide_eq_false h2
        rw [hxx] at h2
        rw [goM_miss h2] at hres'
        (conv => whnf)
        refine ⟨by show (0 : Int) ≤ (t : Int); omega, by show (t : Int) < (K.length : Int); omega, ?_⟩
        (conv => whnf)
        refine ⟨by rw [et]; exact htl, ?_⟩
        (conv => whnf)
        refine ⟨(L', x), [2], by show L'.length ≤ 1000000; omega, rfl, ?_, by (repeat' (first | exact True.intro | rfl | assumption | exact mc_ok rfl | exact mr_ok | exact fun _ => rfl | (refine And.intro ?_ ?_) | (intro _ _; rfl) | ((conv => whnf); (first | exact True.intro | (refine And.intro ?_ ?_))))), ?_⟩
        · (repeat' (first | exact True.intro | rfl | assumption | exact mc_ok rfl | exact mr_ok | exact fun _ => rfl | (refine And.intro ?_ ?_) | (intro _ _; rfl) | ((conv => whnf); (first | exact True.intro | (refine And.intro ?_ ?_)))))
          exact congrArg V.str hxx.symm
        (conv => whnf)
        constructor
        · intro h3
          have h3 : hasB L' x = false := not_t h3
          rw [if_neg (by rw [h3]; exact Bool.false_ne_true)] at hres'
          (conv => whnf)
          refine ⟨by show (0 : Int) ≤ (t : Int); omega, by show (t : Int) < (K.length : Int); omega, ?_⟩
          (conv => whnf)
          refine ⟨by rw [et]; exact htl, ?_⟩
          (conv => whnf)
          refine ⟨some (fun q => [.str ((L' ++ [x]).getD q eS)]), ?_⟩
          (conv => whnf)
          refine ⟨by decide, by show 0 + L'.length ≤ L'.length; omega, by show (L'.length + 1) * (16 + 1) ≤ 1000000000; omega, fun q hq => ?_, ?_⟩
          · show ([.str ((L' ++ [x]).getD q eS)] : List V) = appF L'.length (fun q => [.str (L'.getD (0 + q) eS)]) (fun q => chunk [.str (K.getD (0 + (t : Int).toNat) eS)] 1 (0 + q)) q
            rw [hxx]
            exact st_push q hq
          (conv => whnf)
          refine ⟨(t + 1, L' ++ [x], n' + 1), [some 1, some 5, some 3], by show K.length - (t + 1) < K.length - t; omega, ⟨hL'.add hxE h3, by show i < (L' ++ [x]).length; rw [szL_snoc]; omega, by show t + 1 ≤ K.length; omega, Nat.succ_le_succ hn', hres'⟩, ?_⟩
          (repeat' (first | exact True.intro | rfl | assumption | exact mc_ok rfl | exact mr_ok | exact fun _ => rfl | (refine And.intro ?_ ?_) | (intro _ _; rfl) | ((conv => whnf); (first | exact True.intro | (refine And.intro ?_ ?_)))))
          all_goals first | exact wt.symm | exact wn.symm | exact szL_snoc
        · intro h3
          have h3 : hasB L' x = true := not_f h3
          rw [if_pos h3] at hres'
          (conv => whnf)
          refine ⟨(t + 1, L', n' + 1), [some 1, some 2, some 3], by show K.length - (t + 1) < K.length - t; omega, ⟨hL', hi', by show t + 1 ≤ K.length; omega, Nat.succ_le_succ hn', hres'⟩, ?_⟩
          (repeat' (first | exact True.intro | rfl | assumption | exact mc_ok rfl | exact mr_ok | exact fun _ => rfl | (refine And.intro ?_ ?_) | (intro _ _; rfl) | ((conv => whnf); (first | exact True.intro | (refine And.intro ?_ ?_)))))
          all_goals first | exact wt.symm | exact wn.symm
    · intro hh
      have hte : ¬ t < K.length := by have : ¬ (t : Int) < (K.length : Int) := of_decide_eq_false hh; omega
      rw [List.drop_eq_nil_of_le (by omega), goM_nil] at hres'
      have wi := wrap_inc (n := 1000000) (show i < 1000000 by omega) (by omega)
      (conv => whnf)
      refine ⟨(i + 1, L', n'), [some 1, some 2], by show E.length + 2 - (i + 1) < E.length + 2 - i; omega, ⟨hL', hi', by show n' ≤ (i + 1) * 10000; omega, hres'⟩, ?_⟩
      (repeat' (first | exact True.intro | rfl | assumption | exact mc_ok rfl | exact mr_ok | exact fun _ => rfl | (refine And.intro ?_ ?_) | (intro _ _; rfl) | ((conv => whnf); (first | exact True.intro | (refine And.intro ?_ ?_)))))
      all_goals exact wi.symm
  · intro h
    have h : ¬ i < L.length := by have : ¬ (i : Int) < (L.length : Int) := of_decide_eq_false h; omega
    rw [goL_out h] at hres
    subst hres
    (conv => whnf)
    refine ⟨[], _, _, hQ, ?_⟩
    (repeat' (first | exact True.intro | rfl | assumption | exact mc_ok rfl | exact mr_ok | exact fun _ => rfl | (refine And.intro ?_ ?_) | (intro _ _; rfl) | ((conv => whnf); (first | exact True.intro | (refine And.intro ?_ ?_)))))
end Go.Proofs.Ytmgcpfljhcahoaa
