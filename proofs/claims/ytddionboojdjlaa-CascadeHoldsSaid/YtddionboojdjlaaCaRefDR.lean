/- What the reference of cascades computes: Tombs, Sorted. -/
import Derived.Test.YtddionboojdjlaaCaRefCR
namespace Go.Proofs.Ytddionboojdjlaa
open Go Sy Tb Gr
set_option maxRecDepth 100000
set_option maxHeartbeats 4000000

theorem conRT : ConOk Try.prog (conOf [(17, SRNodes.T), (30, SHasZ.T)]) := conOf_cons (LSpec.call SRNodes_nt SRNodes_ok) (conOf_cons (LSpec.call SHasZ_nt SHasZ_ok) conOf_nil)
def SRTombs : LSpec where
  X := ((Nat → Option Obj) × Option (Nat × Nat) × Nat × List Bs) × (Int × Int × List Ed)
  k := 2
  pre x := (ZS x.1.1 x.1.2.1 x.1.2.2.2 ∧ x.1.2.2.2.length ≤ x.1.2.2.1) ∧ x.1.2.2.2.length ≤ 1000000 ∧ x.2.2.2.length ≤ 10000
  args x θ := [rgV (θ 0) x.2.1 x.2.2.1 x.2.2.2, .zsl (θ 1) x.1.2.1 1 x.1.2.2.2.length x.1.2.2.1]
  objs x _ := [edR x.2.2.2, fzO x.1.1]
  out x θ R := R (.sl (θ 2) 0 1 (flB x.1.2.2.2 (ndK x.2.2.2)).length false) [some (edR x.2.2.2), some (fzO x.1.1), some (stR (flB x.1.2.2.2 (ndK x.2.2.2)))]
theorem SRTombs_nt : SRTombs.Nt := ⟨fun _ _ => rfl, fun _ _ => rfl, fun _ _ _ h => h⟩
theorem SRTombs_ok : SRTombs.Ok Try.prog 16 := by
  refine LSpec.of_body noGo mixed conRT Try.func16 rfl (by kernel_rfl) fun ⟨⟨Z, p, cc, L⟩, ⟨gn, gm, E⟩⟩ R ⟨hpr, hc, hl⟩ hR => ?_
  have hpr : ZS Z p L ∧ L.length ≤ cc := hpr
  have hl : E.length ≤ 10000 := hl
  have hc : L.length ≤ 1000000 := hc
  have hQ : R (.sl 2 0 1 (flB L (ndK E)).length false) [some (edR E), some (fzO Z), some (stR (flB L (ndK E)))] := hR
  obtain ⟨Nd, hNd⟩ : ∃ Nd, Nd = ndK E := ⟨_, rfl⟩
  have hNl : Nd.length ≤ 20000 := by have := ndK_len (E := E); rw [hNd]; omega
  (conv => whnf)
  refine ⟨(gn, gm, E), [0], hl, rfl, by (repeat' (first | exact True.intro | rfl | assumption | exact mc_ok rfl | exact mr_ok | exact fun _ => rfl | exact mt_keep _ _ | exact ms_ok | (refine And.intro ?_ ?_) | (intro _ _; rfl) | ((conv => whnf); (first | exact True.intro | (refine And.intro ?_ ?_))))), by (repeat' (first | exact True.intro | rfl | assumption | exact mc_ok rfl | exact mr_ok | exact fun _ => rfl | exact mt_keep _ _ | exact ms_ok | (refine And.intro ?_ ?_) | (intro _ _; rfl) | ((conv => whnf); (first | exact True.intro | (refine And.intro ?_ ?_))))), ?_⟩
  rw [← hNd] at hQ
  (conv => whnf)
  refine .inl ⟨Nat × List Bs, fun x => [(1, .zsl 1 p 1 L.length cc), (5, .sl 3 0 1 x.2.length false), (6, .sl 2 0 1 Nd.length false), (7, i64 x.1)], fun x => [some (edR E), some (fzO Z), some (stR Nd), some (stR x.2)], fun x => Nd.length - x.1, fun x => x.1 ≤ Nd.length ∧ x.2 = flB L (Nd.take x.1), 4, ⟨(0, []), [some 3, none], ⟨Nat.zero_le _, rfl⟩, ?_⟩, fun _ => rfl, fun ⟨i, o⟩ ⟨hi, ho⟩ => ?_⟩
  · rw [hNd]
    (repeat' (first | exact True.intro | rfl | assumption | exact mc_ok rfl | exact mr_ok | exact fun _ => rfl | exact mt_keep _ _ | exact ms_ok | (refine And.intro ?_ ?_) | (intro _ _; rfl) | ((conv => whnf); (first | exact True.intro | (refine And.intro ?_ ?_)))))
  have hi : i ≤ Nd.length := hi
  have ho : o = flB L (Nd.take i) := ho
  have ei := zero_add_toNat i
  have hol : o.length ≤ 20000 := by rw [ho]; have := flB_le (H := L) (l := Nd.take i); rw [List.length_take] at this; omega
  (conv => whnf)
  constructor
  · intro h
    have h : i < Nd.length := by have : (i : Int) < (Nd.length : Int) := of_decide_eq_true h; omega
    have hs : flB L (Nd.take (i + 1)) = if hasB L (Nd.getD i eS) = true then flB L (Nd.take i) else flB L (Nd.take i) ++ [Nd.getD i eS] := by rw [take_snoc (d := eS) h, flB_snoc]
    rw [← ho] at hs
    have hwi := wrap_inc h (by omega)
    (conv => whnf)
    refine ⟨by show (0 : Int) ≤ (i : Int); omega, by show (i : Int) < (Nd.length : Int); omega, ?_⟩
    (conv => whnf)
    refine ⟨by rw [ei]; exact h, ?_⟩
    (conv => whnf)
    refine ⟨((Z, p, cc, L), Nd.getD (0 + (i : Int).toNat) eS, hasB L (Nd.getD i eS)), [1], ⟨hpr, hc, by rw [ei]⟩, rfl, by (repeat' (first | exact True.intro | rfl | assumption | exact mc_ok rfl | exact mr_ok | exact fun _ => rfl | exact mt_keep _ _ | exact ms_ok | (refine And.intro ?_ ?_) | (intro _ _; rfl) | ((conv => whnf); (first | exact True.intro | (refine And.intro ?_ ?_))))), by (repeat' (first | exact True.intro | rfl | assumption | exact mc_ok rfl | exact mr_ok | exact fun _ => rfl | exact mt_keep _ _ | exact ms_ok | (refine And.intro ?_ ?_) | (intro _ _; rfl) | ((conv => whnf); (first | exact True.intro | (refine And.intro ?_ ?_))))), ?_⟩
    (conv => whnf)
    constructor
    · intro h2
      have h2 : hasB L (Nd.getD i eS) = false := not_t h2
      rw [if_neg (by rw [h2]; exact Bool.false_ne_true)] at hs
      (conv => whnf)
      refine ⟨by show (0 : Int) ≤ (i : Int); omega, by show (i : Int) < (Nd.length : Int); omega, ?_⟩
      (conv => whnf)
      refine ⟨by rw [ei]; exact h, ?_⟩
      (conv => whnf)
      refine ⟨some (fun q => [.str ((o ++ [Nd.getD i eS]).getD q eS)]), ?_⟩
      (conv => whnf)
      refine ⟨by decide, by show 0 + o.length ≤ o.length; omega, by show (o.length + 1) * (16 + 1) ≤ 1000000000; omega, fun q hq => ?_, ?_⟩
      · show ([.str ((o ++ [Nd.getD i eS]).getD q eS)] : List V) = appF o.length (fun q => [.str (o.getD (0 + q) eS)]) (fun q => chunk [.str (Nd.getD (0 + (i : Int).toNat) eS)] 1 (0 + q)) q
        rw [ei]
        exact st_push q hq
      (conv => whnf)
      refine ⟨(i + 1, o ++ [Nd.getD i eS]), [some 2, some 5], by show Nd.length - (i + 1) < Nd.length - i; omega, ⟨by show i + 1 ≤ Nd.length; omega, hs.symm⟩, ?_⟩
      (repeat' (first | exact True.intro | rfl | assumption | exact mc_ok rfl | exact mr_ok | exact fun _ => rfl | exact mt_keep _ _ | exact ms_ok | (refine And.intro ?_ ?_) | (intro _ _; rfl) | ((conv => whnf); (first | exact True.intro | (refine And.intro ?_ ?_)))))
      all_goals first | exact hwi.symm | exact szL_snoc
    · intro h2
      have h2 : hasB L (Nd.getD i eS) = true := not_f h2
      rw [if_pos h2] at hs
      (conv => whnf)
      refine ⟨(i + 1, o), [some 2, some 3], by show Nd.length - (i + 1) < Nd.length - i; omega, ⟨by show i + 1 ≤ Nd.length; omega, hs.symm⟩, ?_⟩
      (repeat' (first | exact True.intro | rfl | assumption | exact mc_ok rfl | exact mr_ok | exact fun _ => rfl | exact mt_keep _ _ | exact ms_ok | (refine And.intro ?_ ?_) | (intro _ _; rfl) | ((conv => whnf); (first | exact True.intro | (refine And.intro ?_ ?_)))))
      all_goals exact hwi.symm
  · intro h
    have h : ¬ i < Nd.length := by have : ¬ (i : Int) < (Nd.length : Int) := of_decide_eq_false h; omega
    rw [List.take_of_length_le (by omega)] at ho
    rw [← ho] at hQ
    (conv => whnf)
    refine ⟨[some 3], _, _, hQ, ?_⟩
    (repeat' (first | exact True.intro | rfl | assumption | exact mc_ok rfl | exact mr_ok | exact fun _ => rfl | exact mt_keep _ _ | exact ms_ok | (refine And.intro ?_ ?_) | (intro _ _; rfl) | ((conv => whnf); (first | exact True.intro | (refine And.intro ?_ ?_)))))
theorem conRSo : ConOk Try.prog (conOf [(17, SRNodes.T), (30, SHasN.T), (35, SFreeN.T)]) := conOf_cons (LSpec.call SRNodes_nt SRNodes_ok) (conOf_cons (LSpec.call SHasN_nt SHasN_ok) (conOf_cons (LSpec.call SFreeN_nt SFreeN_ok) conOf_nil))
def SRSortE : LSpec where
  X := Int × Int × List Ed
  k := 1
  pre x := x.2.2.length ≤ 10000 ∧ Ac x.2.2
  args x θ := [rgV (θ 0) x.1 x.2.1 x.2.2]
  objs x _ := [edR x.2.2]
  out x θ R := R (.sl (θ 1) 0 1 (sortedE x.2.2).length false) [some (edR x.2.2), some (stR (sortedE x.2.2))]
theorem SRSortE_nt : SRSortE.Nt := ⟨fun _ _ => rfl, fun _ _ => rfl, fun _ _ _ h => h⟩
theorem SRSortE_ok : SRSortE.Ok Try.prog 11 := by
  refine LSpec.of_body noGo mixed conRSo Try.func11 rfl (by kernel_rfl) fun ⟨gn, gm, E⟩ R ⟨hl, hac⟩ hR => ?_
  have hl : E.length ≤ 10000 := hl
  have hac : Ac E := hac
  have hQ : R (.sl 1 0 1 (sortedE E).length false) [some (edR E), some (stR (sortedE E))] := hR
  obtain ⟨Nd, hNd⟩ : ∃ Nd, Nd = ndK E := ⟨_, rfl⟩
  have hNl : Nd.length ≤ 20000 := by have := ndK_len (E := E); rw [hNd]; omega
  (conv => whnf)
  refine ⟨(gn, gm, E), [0], hl, rfl, by (repeat' (first | exact True.intro | rfl | assumption | exact mc_ok rfl | exact mr_ok | exact fun _ => rfl | exact mt_keep _ _ | exact ms_ok | (refine And.intro ?_ ?_) | (intro _ _; rfl) | ((conv => whnf); (first | exact True.intro | (refine And.intro ?_ ?_))))), by (repeat' (first | exact True.intro | rfl | assumption | exact mc_ok rfl | exact mr_ok | exact fun _ => rfl | exact mt_keep _ _ | exact ms_ok | (refine And.intro ?_ ?_) | (intro _ _; rfl) | ((conv => whnf); (first | exact True.intro | (refine And.intro ?_ ?_))))), ?_⟩
  (conv => whnf)
  refine .inl ⟨List Bs, fun o => [(1, .ptr 1 0), (3, .sl 3 0 1 o.length false), (4, .sl 2 0 1 Nd.length false)], fun o => [some (edR E), some (.cells [i64 gn, i64 gm, .sl 0 0 2 E.length false] 28), some (stR Nd), some (stR o)], fun o => Nd.length - o.length, fun o => TI E o, 4, ⟨[], [some 1, some 2, none], TI.zero, ?_⟩, fun _ => rfl, fun o hT => ?_⟩
  · rw [hNd]
    (repeat' (first | exact True.intro | rfl | assumption | exact mc_ok rfl | exact mr_ok | exact fun _ => rfl | exact mt_keep _ _ | exact ms_ok | (refine And.intro ?_ ?_) | (intro _ _; rfl) | ((conv => whnf); (first | exact True.intro | (refine And.intro ?_ ?_)))))
  have hT : TI E o := hT
  have hol : o.length ≤ Nd.length := by rw [hNd]; exact hT.len
  (conv => whnf)
  constructor
  · intro h
    have h : o.length < Nd.length := by have : (o.length : Int) < (Nd.length : Int) := of_decide_eq_true h; omega
    obtain ⟨y, hy⟩ := TI.more hac (by rw [← hNd]; exact h)
    (conv => whnf)
    refine .inl ⟨Nat, fun i => [(1, .ptr 1 0), (3, .sl 3 0 1 o.length false), (4, .sl 2 0 1 Nd.length false), (5, i64 i)], fun _ => [some (edR E), some (.cells [i64 gn, i64 gm, .sl 0 0 2 E.length false] 28), some (stR Nd), some (stR o)], fun i => Nd.length - i, fun i => i ≤ Nd.length ∧ ∀ j, j < i → rdyB E o (Nd.getD j eS) = false, 4, ⟨0, [some 1, some 2, some 3], ⟨Nat.zero_le _, fun j hj => absurd hj (Nat.not_lt_zero j)⟩, ?_⟩, fun _ => rfl, fun i ⟨hi, hb⟩ => ?_⟩
    · (repeat' (first | exact True.intro | rfl | assumption | exact mc_ok rfl | exact mr_ok | exact fun _ => rfl | exact mt_keep _ _ | exact ms_ok | (refine And.intro ?_ ?_) | (intro _ _; rfl) | ((conv => whnf); (first | exact True.intro | (refine And.intro ?_ ?_)))))
    have hi : i ≤ Nd.length := hi
    have ei := zero_add_toNat i
    (conv => whnf)
    constructor
    · intro h1
      have h1 : i < Nd.length := by have : (i : Int) < (Nd.length : Int) := of_decide_eq_true h1; omega
      have hwi := wrap_inc h1 (by omega)
      obtain ⟨c, hc⟩ : ∃ c, c = Nd.getD i eS := ⟨_, rfl⟩
      have hcg : Nd.getD (0 + (i : Int).toNat) eS = c := by rw [ei, hc]
      have hbn : ∀ b, rdyB E o c = b → b = false → ∀ j, j < i + 1 → rdyB E o (Nd.getD j eS) = false := fun b e1 e2 j hj => by
        rcases Nat.lt_or_ge j i with q | q
        · exact hb j q
        · obtain rfl : j = i := by omega
          rw [← hc, e1, e2]
      (conv => whnf)
      refine ⟨by show (0 : Int) ≤ (i : Int); omega, by show (i : Int) < (Nd.length : Int); omega, ?_⟩
      (conv => whnf)
      refine ⟨by rw [ei]; exact h1, ?_⟩
      (conv => whnf)
      refine ⟨((o, o), Nd.getD (0 + (i : Int).toNat) eS, hasB o c), [3], ⟨List.prefix_rfl, by show o.length ≤ 1000000; omega, by rw [hcg]⟩, rfl, by (repeat' (first | exact True.intro | rfl | assumption | exact mc_ok rfl | exact mr_ok | exact fun _ => rfl | exact mt_keep _ _ | exact ms_ok | (refine And.intro ?_ ?_) | (intro _ _; rfl) | ((conv => whnf); (first | exact True.intro | (refine And.intro ?_ ?_))))), by (repeat' (first | exact True.intro | rfl | assumption | exact mc_ok rfl | exact mr_ok | exact fun _ => rfl | exact mt_keep _ _ | exact ms_ok | (refine And.intro ?_ ?_) | (intro _ _; rfl) | ((conv => whnf); (first | exact True.intro | (refine And.intro ?_ ?_))))), ?_⟩
      (conv => whnf)
      constructor
      · intro h2
        have h2 : hasB o c = false := not_t h2
        (conv => whnf)
        refine ⟨by show (0 : Int) ≤ (i : Int); omega, by show (i : Int) < (Nd.length : Int); omega, ?_⟩
        (conv => whnf)
        refine ⟨by rw [ei]; exact h1, ?_⟩
        (conv => whnf)
        refine ⟨((o, o), (gn, gm, E), Nd.getD (0 + (i : Int).toNat) eS, freeB E c o), [0, 3], ⟨List.prefix_rfl, by show o.length ≤ 1000000; omega, by show E.length ≤ 20000; omega, by rw [hcg]⟩, rfl, by (repeat' (first | exact True.intro | rfl | assumption | exact mc_ok rfl | exact mr_ok | exact fun _ => rfl | exact mt_keep _ _ | exact ms_ok | (refine And.intro ?_ ?_) | (intro _ _; rfl) | ((conv => whnf); (first | exact True.intro | (refine And.intro ?_ ?_))))), by (repeat' (first | exact True.intro | rfl | assumption | exact mc_ok rfl | exact mr_ok | exact fun _ => rfl | exact mt_keep _ _ | exact ms_ok | (refine And.intro ?_ ?_) | (intro _ _; rfl) | ((conv => whnf); (first | exact True.intro | (refine And.intro ?_ ?_))))), ?_⟩
        (conv => whnf)
        constructor
        · intro h3
          have h3 : freeB E c o = true := h3
          have hrd : rdyB E o c = true := by unfold rdyB; rw [h2, h3]; rfl
          have hnx : nextE E o = some c := by
            unfold nextE
            rw [← hNd, hc]
            exact find_at h1 hb (hc ▸ hrd)
          have hT2 : TI E (o ++ [c]) := hT.next hnx
          have hol2 : (o ++ [c]).length = o.length + 1 := szL_snoc
          (conv => whnf)
          refine ⟨by show (0 : Int) ≤ (i : Int); omega, by show (i : Int) < (Nd.length : Int); omega, ?_⟩
          (conv => whnf)
          refine ⟨by rw [ei]; exact h1, ?_⟩
          (conv => whnf)
          refine ⟨some (fun q => [.str ((o ++ [c]).getD q eS)]), ?_⟩
          (conv => whnf)
          refine ⟨by decide, by show 0 + o.length ≤ o.length; omega, by show (o.length + 1) * (16 + 1) ≤ 1000000000; omega, fun q hq => ?_, ?_⟩
          · show ([.str ((o ++ [c]).getD q eS)] : List V) = appF o.length (fun q => [.str (o.getD (0 + q) eS)]) (fun q => chunk [.str (Nd.getD (0 + (i : Int).toNat) eS)] 1 (0 + q)) q
            rw [hcg]
            exact st_push q hq
          (conv => whnf)
          refine ⟨o ++ [c], [some 1, some 2, some 5], by show Nd.length - (o ++ [c]).length < Nd.length - o.length; omega, hT2, ?_⟩
          (repeat' (first | exact True.intro | rfl | assumption | exact mc_ok rfl | exact mr_ok | exact fun _ => rfl | exact mt_keep _ _ | exact ms_ok | (refine And.intro ?_ ?_) | (intro _ _; rfl) | ((conv => whnf); (first | exact True.intro | (refine And.intro ?_ ?_)))))
          all_goals exact hol2
        · intro h3
          have h3 : freeB E c o = false := h3
          (conv => whnf)
          refine ⟨i + 1, [some 1, some 2, some 3], by show Nd.length - (i + 1) < Nd.length - i; omega, ⟨by show i + 1 ≤ Nd.length; omega, hbn _ rfl (by unfold rdyB; rw [h3, Bool.and_false])⟩, ?_⟩
          (repeat' (first | exact True.intro | rfl | assumption | exact mc_ok rfl | exact mr_ok | exact fun _ => rfl | exact mt_keep _ _ | exact ms_ok | (refine And.intro ?_ ?_) | (intro _ _; rfl) | ((conv => whnf); (first | exact True.intro | (refine And.intro ?_ ?_)))))
          all_goals exact hwi.symm
      · intro h2
        have h2 : hasB o c = true := not_f h2
        (conv => whnf)
        refine ⟨i + 1, [some 1, some 2, some 3], by show Nd.length - (i + 1) < Nd.length - i; omega, ⟨by show i + 1 ≤ Nd.length; omega, hbn _ rfl (by unfold rdyB; rw [h2]; rfl)⟩, ?_⟩
        (repeat' (first | exact True.intro | rfl | assumption | exact mc_ok rfl | exact mr_ok | exact fun _ => rfl | exact mt_keep _ _ | exact ms_ok | (refine And.intro ?_ ?_) | (intro _ _; rfl) | ((conv => whnf); (first | exact True.intro | (refine And.intro ?_ ?_)))))
        all_goals exact hwi.symm
    · intro h1
      have h1 : ¬ i < Nd.length := by have : ¬ (i : Int) < (Nd.length : Int) := of_decide_eq_false h1; omega
      exfalso
      have : nextE E o = none := by
        unfold nextE
        rw [← hNd]
        exact find_no fun j hj => hb j (by omega)
      rw [this] at hy
      cases hy
  · intro h
    have h : ¬ o.length < Nd.length := by have : ¬ (o.length : Int) < (Nd.length : Int) := of_decide_eq_false h; omega
    have e : o = sortedE E := hT.full (by rw [← hNd]; exact h)
    rw [← e] at hQ
    (conv => whnf)
    refine ⟨[some 3], _, _, hQ, ?_⟩
    (repeat' (first | exact True.intro | rfl | assumption | exact mc_ok rfl | exact mr_ok | exact fun _ => rfl | exact mt_keep _ _ | exact ms_ok | (refine And.intro ?_ ?_) | (intro _ _; rfl) | ((conv => whnf); (first | exact True.intro | (refine And.intro ?_ ?_)))))
end Go.Proofs.Ytddionboojdjlaa
