/- What the law's functions of the trie compute: is, few, step. -/
import Derived.Test.YtngggdlcanpfgaaTrLawR
namespace Go.Proofs.Ytngggdlcanpfgaa
open Go Go.RowKit Sy Ti
set_option maxRecDepth 100000
set_option maxHeartbeats 4000000

theorem conIs : ConOk Try.prog (conOf [(14, SLen.T), (15, SNodes.T), (39, SRNodes.T), (12, SLooks.T)]) :=
  conOf_cons (LSpec.call SLen_nt SLen_ok) (conOf_cons (LSpec.call SNodes_nt SNodes_ok) (conOf_cons (LSpec.call SRNodes_nt SRNodes_ok) (conOf_cons (LSpec.call SLooks_nt SLooks_ok) conOf_nil)))
def SIs : LSpec where
  X := GX
  k := 4
  pre x := GOk x ∧ x.m.length ≤ 1000
  args x θ := [.ptr (θ 0) 0, .sl (θ 3) 0 2 x.m.length false]
  objs x θ := objsG θ x.T x.R x.root x.m.length ++ [prR x.m]
  out x θ R := R (.sb true) (allG θ x.T x.R x.root x.m.length ++ [some (prR x.m)])
theorem SIs_nt : SIs.Nt := ⟨fun _ _ => rfl, by unfold SIs objsG; (intros; simp only [ren_all] at *; try assumption); simp only [prR_ren], by
  unfold SIs allG
  intro x θ R h
  have := h
  simp only [ren_all, prR_ren]
  exact this⟩
theorem SIs_ok : SIs.Ok Try.prog 13 := by
  refine LSpec.of_body noGo mixed conIs Try.func13 rfl (by kernel_rfl) fun ⟨T, M, root, ns, m, s, nn⟩ R hX hR => ?_
  have hg : TG T M root ns m := hX.1.1
  have hl : m.length ≤ 1000 := hX.2
  have hok : GOk ⟨T, M, root, ns, m, eS, 0⟩ := ⟨hg, by show m.length ≤ 900000; omega⟩
  have hnl := hg.twice
  have hQ : R (.sb true) (allG _root_.id T M root m.length ++ [some (prR m)]) := hR
  clear hX hR
  show bodyP _ _ _ _ _ [.ptr 0 0, .sl 3 0 2 m.length false] ⟨4, Tr.ofL 0 (objsG _root_.id T M root m.length ++ [prR m]) .leaf⟩ _
  (conv => whnf)
  refine ⟨((T, M), (root, (m.length : Int))), [0, 1, 2], trivial, rfl, by (repeat' (first | exact True.intro | rfl | assumption | exact tn_ok rfl | exact tr_ok rfl | exact fun _ => rfl | (refine And.intro ?_ ?_) | (intro _ _; rfl) | ((conv => whnf); (first | exact True.intro | (refine And.intro ?_ ?_))))), by (repeat' (first | exact True.intro | rfl | assumption | exact tn_ok rfl | exact tr_ok rfl | exact fun _ => rfl | (refine And.intro ?_ ?_) | (intro _ _; rfl) | ((conv => whnf); (first | exact True.intro | (refine And.intro ?_ ?_))))), ?_⟩
  (conv => whnf)
  refine ⟨fun _ => ?_, fun hh => eqd' hh⟩
  (conv => whnf)
  refine ⟨⟨T, M, root, ns, m.length, eS⟩, [0, 1, 2], ⟨hg.ts, by show ns.length ≤ 10000000; omega⟩, rfl, by (repeat' (first | exact True.intro | rfl | assumption | exact tn_ok rfl | exact tr_ok rfl | exact fun _ => rfl | (refine And.intro ?_ ?_) | (intro _ _; rfl) | ((conv => whnf); (first | exact True.intro | (refine And.intro ?_ ?_))))), by (repeat' (first | exact True.intro | rfl | assumption | exact tn_ok rfl | exact tr_ok rfl | exact fun _ => rfl | (refine And.intro ?_ ?_) | (intro _ _; rfl) | ((conv => whnf); (first | exact True.intro | (refine And.intro ?_ ?_))))), ?_⟩
  (conv => whnf)
  refine ⟨m, [3], ⟨hl, fun y hy => (hg.cn.pos hg.ts hy).2.2⟩, rfl, by (repeat' (first | exact True.intro | rfl | assumption | exact tn_ok rfl | exact tr_ok rfl | exact fun _ => rfl | (refine And.intro ?_ ?_) | (intro _ _; rfl) | ((conv => whnf); (first | exact True.intro | (refine And.intro ?_ ?_))))), by (repeat' (first | exact True.intro | rfl | assumption | exact tn_ok rfl | exact tr_ok rfl | exact fun _ => rfl | (refine And.intro ?_ ?_) | (intro _ _; rfl) | ((conv => whnf); (first | exact True.intro | (refine And.intro ?_ ?_))))), fun L hL => ?_⟩
  have hL : NI (SP m) L := hL
  have en := hg.nodes hL.nd hL.mem
  (conv => whnf)
  refine ⟨fun _ => ?_, fun hh => absurd (show decide ((ns.length : Int) = (L.length : Int)) = false from hh) (by rw [en]; simp)⟩
  (conv => whnf)
  refine ⟨⟨T, M, root, ns, m, eS, 0⟩, [0, 1, 2, 3], ⟨hok, hl⟩, rfl, by (repeat' (first | exact True.intro | rfl | assumption | exact tn_ok rfl | exact tr_ok rfl | exact fun _ => rfl | (refine And.intro ?_ ?_) | (intro _ _; rfl) | ((conv => whnf); (first | exact True.intro | (refine And.intro ?_ ?_))))), by (repeat' (first | exact True.intro | rfl | assumption | exact tn_ok rfl | exact tr_ok rfl | exact fun _ => rfl | (refine And.intro ?_ ?_) | (intro _ _; rfl) | ((conv => whnf); (first | exact True.intro | (refine And.intro ?_ ?_))))), ?_⟩
  (conv => whnf)
  refine ⟨[], _, _, hQ, ?_⟩
  (repeat' (first | exact True.intro | rfl | assumption | exact tn_ok rfl | exact tr_ok rfl | exact fun _ => rfl | (refine And.intro ?_ ?_) | (intro _ _; rfl) | ((conv => whnf); (first | exact True.intro | (refine And.intro ?_ ?_)))))
abbrev ActP := Int × Bs × Int
def ap0 : ActP := (0, eS, 0)
def apC (a : ActP) : List V := [i64 a.1, .str a.2.1, u64 a.2.2]
def apO (c : Obj) (l : List ActP) (e : TypeId) : SObj := .ro c l.length (fun j => apC (l.getD j ap0)) e 3
def SFew : LSpec where
  X := (Obj × List ActP × TypeId) × Int
  k := 1
  pre x := 0 ≤ x.2 ∧ x.2 ≤ 1000
  args x θ := [.sl (θ 0) 0 3 x.1.2.1.length false, i64 x.2]
  objs x _ := [apO x.1.1 x.1.2.1 x.1.2.2]
  out x _ R := ∀ b, (b = true → (x.1.2.1.length : Int) ≤ x.2 ∧ ∀ j, j < x.1.2.1.length → (x.1.2.1.getD j ap0).2.1.size ≤ 300) → R (.sb b) [some (apO x.1.1 x.1.2.1 x.1.2.2)]
theorem SFew_nt : SFew.Nt := ⟨fun _ _ => rfl, fun _ _ => rfl, fun _ _ _ h => h⟩
theorem SFew_ok : SFew.Ok Try.prog 19 := by
  refine LSpec.of_body noGo mixed conOf_nil Try.func19 rfl (by kernel_rfl) fun ⟨⟨c, l, e⟩, k⟩ R hk hR => ?_
  have hk : 0 ≤ k ∧ k ≤ 1000 := hk
  have hR : ∀ b, (b = true → (l.length : Int) ≤ k ∧ ∀ j, j < l.length → (l.getD j ap0).2.1.size ≤ 300) → R (.sb b) [some (apO c l e)] := hR
  have hR0 := hR false (fun g => Bool.noConfusion g)
  show bodyP _ _ _ _ _ [.sl 0 0 3 l.length false, i64 k] ⟨1, Tr.ofL 0 [apO c l e] .leaf⟩ _
  (conv => whnf)
  refine .inl ⟨Nat, fun i => [(0, .sl 0 0 3 l.length false), (1, i64 k), (5, i64 i)], fun i => [some (apO c l e)], fun i => 1001 - i, fun i => i ≤ 1000 ∧ ∀ j, j < i → (l.getD j ap0).2.1.size ≤ 300, 1, ⟨0, [], ⟨Nat.zero_le _, fun j hj => absurd hj (Nat.not_lt_zero j)⟩, ?_⟩, fun _ => rfl, fun i hi0 => ?_⟩
  · (repeat' (first | exact True.intro | rfl | assumption | exact tn_ok rfl | exact tr_ok rfl | exact fun _ => rfl | (refine And.intro ?_ ?_) | (intro _ _; rfl) | ((conv => whnf); (first | exact True.intro | (refine And.intro ?_ ?_)))))
  have hi : i ≤ 1000 := hi0.1
  have hno : ∀ j, j < i → (l.getD j ap0).2.1.size ≤ 300 := hi0.2
  clear hi0
  have ei := zero_add_toNat i
  have hend : ((l.length : Int) ≤ k → l.length ≤ i) → R (.sb (decide ((l.length : Int) ≤ k))) [some (apO c l e)] := fun q => hR _ fun g => ⟨of_decide_eq_true g, fun j hj => hno j (Nat.lt_of_lt_of_le hj (q (of_decide_eq_true g)))⟩
  (conv => whnf)
  constructor
  · intro h
    have h : (i : Int) < (l.length : Int) := of_decide_eq_true h
    (conv => whnf)
    constructor
    · intro h2
      have h2 : (i : Int) < k := of_decide_eq_true h2
      (conv => whnf)
      refine ⟨by show (0 : Int) ≤ (i : Int); omega, h, ?_⟩
      (conv => whnf)
      refine ⟨by rw [ei]; omega, ?_⟩
      rw [ei]
      (conv => whnf)
      constructor
      · intro _
        (conv => whnf)
        refine ⟨[], _, _, hR0, ?_⟩
        (repeat' (first | exact True.intro | rfl | assumption | exact tn_ok rfl | exact tr_ok rfl | exact fun _ => rfl | (refine And.intro ?_ ?_) | (intro _ _; rfl) | ((conv => whnf); (first | exact True.intro | (refine And.intro ?_ ?_)))))
      · intro h3
        have h3 : (l.getD i ap0).2.1.size ≤ 300 := by have : ¬ ((l.getD i ap0).2.1.size : Int) > 300 := of_decide_eq_false h3; omega
        (conv => whnf)
        refine ⟨i + 1, [], by show 1001 - (i + 1) < 1001 - i; omega, ⟨by show i + 1 ≤ 1000; omega, fun j hj => ?_⟩, ?_⟩
        · have hj : j < i + 1 := hj
          rcases Nat.lt_or_ge j i with g | g
          · exact hno j g
          · obtain rfl : j = i := by omega
            exact h3
        (repeat' (first | exact True.intro | rfl | assumption | exact tn_ok rfl | exact tr_ok rfl | exact fun _ => rfl | (refine And.intro ?_ ?_) | (intro _ _; rfl) | ((conv => whnf); (first | exact True.intro | (refine And.intro ?_ ?_)))))
        exact (wrap_id (by omega) (by omega)).symm
    · intro h2
      have h2 : ¬ (i : Int) < k := of_decide_eq_false h2
      have hF := hend fun _ => by omega
      (conv => whnf)
      refine ⟨[], _, _, hF, ?_⟩
      (repeat' (first | exact True.intro | rfl | assumption | exact tn_ok rfl | exact tr_ok rfl | exact fun _ => rfl | (refine And.intro ?_ ?_) | (intro _ _; rfl) | ((conv => whnf); (first | exact True.intro | (refine And.intro ?_ ?_)))))
  · intro h
    have h : ¬ (i : Int) < (l.length : Int) := of_decide_eq_false h
    have hF := hend fun _ => by omega
    (conv => whnf)
    refine ⟨[], _, _, hF, ?_⟩
    (repeat' (first | exact True.intro | rfl | assumption | exact tn_ok rfl | exact tr_ok rfl | exact fun _ => rfl | (refine And.intro ?_ ?_) | (intro _ _; rfl) | ((conv => whnf); (first | exact True.intro | (refine And.intro ?_ ?_)))))
theorem conCu : ConOk Try.prog (conOf [(21, GCut.T)]) := conOf_cons (LSpec.call GCut_nt GCut_ok) conOf_nil
theorem conRm : ConOk Try.prog (conOf [(20, GRemove.T)]) := conOf_cons (LSpec.call GRemove_nt GRemove_ok) conOf_nil
theorem conSt : ConOk Try.prog (conOf [(10, SRSet.T), (11, GSet.T), (29, SRRemove.T), (25, inl Try.prog (conOf [(20, GRemove.T)]) Try.f25), (47, SRCut.T), (26, inl Try.prog (conOf [(21, GCut.T)]) Try.f26), (27, GCopy.T), (21, GCut.T)]) :=
  conOf_cons (LSpec.call SRSet_nt SRSet_ok) (conOf_cons (LSpec.call GSet_nt GSet_ok) (conOf_cons (LSpec.call SRRemove_nt SRRemove_ok) (conOf_cons (inl_ok noGo mixed conRm Try.func25 (by kernel_rfl)) (conOf_cons (LSpec.call SRCut_nt SRCut_ok) (conOf_cons (inl_ok noGo mixed conCu Try.func26 (by kernel_rfl)) (conOf_cons (LSpec.call GCopy_nt GCopy_ok) (conOf_cons (LSpec.call GCut_nt GCut_ok) conOf_nil)))))))
def SStep : LSpec where
  X := GX × Int
  k := 4
  pre x := GOk x.1 ∧ x.1.m.length ≤ 1000 ∧ x.1.s.size ≤ 300 ∧ 0 ≤ x.1.n ∧ x.1.n < 18446744073709551616
  args x θ := [.ptr (θ 0) 0, .sl (θ 3) 0 2 x.1.m.length false, .agg (apC (x.2, x.1.s, x.1.n))]
  objs x θ := objsG θ x.1.T x.1.R x.1.root x.1.m.length ++ [prR x.1.m]
  out x θ R := ∀ T' R' root' ns' m', TG T' R' root' ns' m' → m'.length ≤ x.1.m.length + 1 → R (.tup [.ptr (θ 4) 0, .sl (θ 7) 0 2 m'.length false, .sb true]) ([none, none, none, none] ++ [some (trC (θ 5) root' m'.length), some (tnO (θ 6) T'), some (trO (θ 5) R'), some (prR m')])
theorem SStep_nt : SStep.Nt := ⟨fun _ _ => rfl, by unfold SStep objsG; (intros; simp only [ren_all] at *; try assumption); simp only [prR_ren], by
  unfold SStep
  intro x θ R h T' R' root' ns' m' h1 h2
  have := h T' R' root' ns' m' h1 h2
  simp only [ren_all, prR_ren]
  exact this⟩
theorem setE_len {m : List Pr} {s : Bs} {n : Int} (h : SrtP m) : (setE m s n).1.length ≤ m.length + 1 ∧ SrtP (setE m s n).1 := by
  unfold setE
  split
  · refine ⟨?_, h.setR s n⟩
    show (setR m s n).length ≤ _
    rw [setR_del h]
    have : (delR m s).length ≤ m.length := List.length_filter_le ..
    omega
  · exact ⟨Nat.le_succ _, h⟩
theorem remE_len {m : List Pr} {s : Bs} : (remE m s).1.length ≤ m.length := by
  unfold remE
  split
  · exact List.length_filter_le ..
  · exact Nat.le_refl _
theorem cutE_len {m : List Pr} {s : Bs} : (cutE m s).1.length ≤ m.length := by
  unfold cutE
  split
  · exact List.length_filter_le ..
  · exact Nat.le_refl _
theorem SStep_ok : SStep.Ok Try.prog 23 := by
  refine LSpec.of_body noGo mixed conSt Try.func23 rfl (by kernel_rfl) fun ⟨⟨T, M, root, ns, m, s, n⟩, what⟩ R hX hR => ?_
  have hg : TG T M root ns m := hX.1.1
  have hl : m.length ≤ 1000 := hX.2.1
  have hs : s.size ≤ 300 := hX.2.2.1
  have hn : 0 ≤ n ∧ n < 18446744073709551616 := hX.2.2.2
  have hlm : m.length ≤ 1000000 := by omega
  have hok : GOk ⟨T, M, root, ns, m, s, n⟩ := ⟨hg, by show m.length ≤ 900000; omega⟩
  have hQ : ∀ T' R' root' ns' m', TG T' R' root' ns' m' → m'.length ≤ m.length + 1 → R (.tup [.ptr 4 0, .sl 7 0 2 m'.length false, .sb true]) ([none, none, none, none] ++ [some (trC 5 root' m'.length), some (tnO 6 T'), some (trO 5 R'), some (prR m')]) := hR
  clear hX hR
  show bodyP _ _ _ _ _ [.ptr 0 0, .sl 3 0 2 m.length false, .agg (apC (what, s, n))] ⟨4, Tr.ofL 0 (objsG _root_.id T M root m.length ++ [prR m]) .leaf⟩ _
  (conv => whnf)
  constructor
  · intro _
    (conv => whnf)
    refine ⟨(m, s, n), [3], ⟨hlm, hg.cn.ord⟩, rfl, by (repeat' (first | exact True.intro | rfl | assumption | exact tn_ok rfl | exact tr_ok rfl | exact fun _ => rfl | (refine And.intro ?_ ?_) | (intro _ _; rfl) | ((conv => whnf); (first | exact True.intro | (refine And.intro ?_ ?_))))), by (repeat' (first | exact True.intro | rfl | assumption | exact tn_ok rfl | exact tr_ok rfl | exact fun _ => rfl | (refine And.intro ?_ ?_) | (intro _ _; rfl) | ((conv => whnf); (first | exact True.intro | (refine And.intro ?_ ?_))))), ?_⟩
    (conv => whnf)
    refine ⟨⟨T, M, root, ns, m, s, n⟩, [0, 1, 2], ⟨hok, hn, by show s.size ≤ 1000000; omega⟩, rfl, by (repeat' (first | exact True.intro | rfl | assumption | exact tn_ok rfl | exact tr_ok rfl | exact fun _ => rfl | (refine And.intro ?_ ?_) | (intro _ _; rfl) | ((conv => whnf); (first | exact True.intro | (refine And.intro ?_ ?_))))), by (repeat' (first | exact True.intro | rfl | assumption | exact tn_ok rfl | exact tr_ok rfl | exact fun _ => rfl | (refine And.intro ?_ ?_) | (intro _ _; rfl) | ((conv => whnf); (first | exact True.intro | (refine And.intro ?_ ?_))))), fun T2 R2 ns2 hg2 => ?_⟩
    have hg2 : TG T2 R2 root ns2 (setE m s n).1 := hg2
    have hF := hQ T2 R2 root ns2 _ hg2 (setE_len hg.cn.ord).1
    (conv => whnf)
    refine ⟨[some 0, some 1, some 2, some 5], _, _, hF, ?_⟩
    (repeat' (first | exact True.intro | rfl | assumption | exact tn_ok rfl | exact tr_ok rfl | exact fun _ => rfl | (refine And.intro ?_ ?_) | (intro _ _; rfl) | ((conv => whnf); (first | exact True.intro | (refine And.intro ?_ ?_)))))
    all_goals (show true = decide (_ = _); exact (decide_eq_true rfl).symm)
  intro _
  (conv => whnf)
  constructor
  · intro _
    (conv => whnf)
    refine ⟨(m, s), [3], ⟨hlm, hg.cn.ord⟩, rfl, by (repeat' (first | exact True.intro | rfl | assumption | exact tn_ok rfl | exact tr_ok rfl | exact fun _ => rfl | (refine And.intro ?_ ?_) | (intro _ _; rfl) | ((conv => whnf); (first | exact True.intro | (refine And.intro ?_ ?_))))), by (repeat' (first | exact True.intro | rfl | assumption | exact tn_ok rfl | exact tr_ok rfl | exact fun _ => rfl | (refine And.intro ?_ ?_) | (intro _ _; rfl) | ((conv => whnf); (first | exact True.intro | (refine And.intro ?_ ?_))))), ?_⟩
    (conv => whnf)
    refine ⟨⟨T, M, root, ns, m, s, n⟩, [0, 1, 2], hok, rfl, by (repeat' (first | exact True.intro | rfl | assumption | exact tn_ok rfl | exact tr_ok rfl | exact fun _ => rfl | (refine And.intro ?_ ?_) | (intro _ _; rfl) | ((conv => whnf); (first | exact True.intro | (refine And.intro ?_ ?_))))), by (repeat' (first | exact True.intro | rfl | assumption | exact tn_ok rfl | exact tr_ok rfl | exact fun _ => rfl | (refine And.intro ?_ ?_) | (intro _ _; rfl) | ((conv => whnf); (first | exact True.intro | (refine And.intro ?_ ?_))))), fun T2 R2 ns2 hg2 => ?_⟩
    have hg2 : TG T2 R2 root ns2 (remE m s).1 := hg2
    have hF := hQ T2 R2 root ns2 _ hg2 (Nat.le_succ_of_le remE_len)
    (conv => whnf)
    refine ⟨fun _ => ?_, fun hh => eqd' hh⟩
    (conv => whnf)
    refine ⟨[some 0, some 1, some 2, some 5], _, _, hF, ?_⟩
    (repeat' (first | exact True.intro | rfl | assumption | exact tn_ok rfl | exact tr_ok rfl | exact fun _ => rfl | (refine And.intro ?_ ?_) | (intro _ _; rfl) | ((conv => whnf); (first | exact True.intro | (refine And.intro ?_ ?_)))))
    all_goals (show true = decide (_ = _); exact (decide_eq_true rfl).symm)
  intro _
  (conv => whnf)
  constructor
  · intro _
    (conv => whnf)
    refine ⟨(m, s), [3], hlm, rfl, by (repeat' (first | exact True.intro | rfl | assumption | exact tn_ok rfl | exact tr_ok rfl | exact fun _ => rfl | (refine And.intro ?_ ?_) | (intro _ _; rfl) | ((conv => whnf); (first | exact True.intro | (refine And.intro ?_ ?_))))), by (repeat' (first | exact True.intro | rfl | assumption | exact tn_ok rfl | exact tr_ok rfl | exact fun _ => rfl | (refine And.intro ?_ ?_) | (intro _ _; rfl) | ((conv => whnf); (first | exact True.intro | (refine And.intro ?_ ?_))))), ?_⟩
    (conv => whnf)
    refine ⟨⟨T, M, root, ns, m, s, n⟩, [0, 1, 2], hok, rfl, by (repeat' (first | exact True.intro | rfl | assumption | exact tn_ok rfl | exact tr_ok rfl | exact fun _ => rfl | (refine And.intro ?_ ?_) | (intro _ _; rfl) | ((conv => whnf); (first | exact True.intro | (refine And.intro ?_ ?_))))), by (repeat' (first | exact True.intro | rfl | assumption | exact tn_ok rfl | exact tr_ok rfl | exact fun _ => rfl | (refine And.intro ?_ ?_) | (intro _ _; rfl) | ((conv => whnf); (first | exact True.intro | (refine And.intro ?_ ?_))))), fun T2 R2 ns2 hg2 => ?_⟩
    have hg2 : TG T2 R2 root ns2 (cutE m s).1 := hg2
    have hF := hQ T2 R2 root ns2 _ hg2 (Nat.le_succ_of_le cutE_len)
    (conv => whnf)
    refine ⟨fun _ => ?_, fun hh => eqd' hh⟩
    (conv => whnf)
    refine ⟨[some 0, some 1, some 2, some 5], _, _, hF, ?_⟩
    (repeat' (first | exact True.intro | rfl | assumption | exact tn_ok rfl | exact tr_ok rfl | exact fun _ => rfl | (refine And.intro ?_ ?_) | (intro _ _; rfl) | ((conv => whnf); (first | exact True.intro | (refine And.intro ?_ ?_)))))
    all_goals (show true = decide (_ = _); exact (decide_eq_true rfl).symm)
  intro _
  (conv => whnf)
  refine ⟨⟨T, M, root, ns, m, s, n⟩, [0, 1, 2], hok, rfl, by (repeat' (first | exact True.intro | rfl | assumption | exact tn_ok rfl | exact tr_ok rfl | exact fun _ => rfl | (refine And.intro ?_ ?_) | (intro _ _; rfl) | ((conv => whnf); (first | exact True.intro | (refine And.intro ?_ ?_))))), by (repeat' (first | exact True.intro | rfl | assumption | exact tn_ok rfl | exact tr_ok rfl | exact fun _ => rfl | (refine And.intro ?_ ?_) | (intro _ _; rfl) | ((conv => whnf); (first | exact True.intro | (refine And.intro ?_ ?_))))), fun T2 R2 r2 ns2 hg2 => ?_⟩
  have hg2 : TG T2 R2 r2 ns2 m := hg2
  have hF := hQ T2 R2 r2 ns2 m hg2 (Nat.le_succ _)
  have l1 := setE_len (s := ⟨#[97, 98]⟩) (n := 99) hg.cn.ord
  have l2 := setE_len (s := ⟨#[97]⟩) (n := 98) l1.2
  (conv => whnf)
  refine ⟨⟨T, M, root, ns, m, ⟨#[97, 98]⟩, 99⟩, [0, 1, 2], ⟨⟨hg, by show m.length ≤ 900000; omega⟩, ⟨show (0 : Int) ≤ 99 by decide, show (99 : Int) < 18446744073709551616 by decide⟩, show (ByteArray.mk #[97, 98]).size ≤ 1000000 by decide⟩, rfl, by (repeat' (first | exact True.intro | rfl | assumption | exact tn_ok rfl | exact tr_ok rfl | exact fun _ => rfl | (refine And.intro ?_ ?_) | (intro _ _; rfl) | ((conv => whnf); (first | exact True.intro | (refine And.intro ?_ ?_))))), by (repeat' (first | exact True.intro | rfl | assumption | exact tn_ok rfl | exact tr_ok rfl | exact fun _ => rfl | (refine And.intro ?_ ?_) | (intro _ _; rfl) | ((conv => whnf); (first | exact True.intro | (refine And.intro ?_ ?_))))), fun T3 R3 ns3 hg3 => ?_⟩
  have hg3 : TG T3 R3 root ns3 (setE m ⟨#[97, 98]⟩ 99).1 := hg3
  (conv => whnf)
  refine ⟨⟨T3, R3, root, ns3, (setE m ⟨#[97, 98]⟩ 99).1, ⟨#[97]⟩, 98⟩, [0, 1, 2], ⟨⟨hg3, by show (setE m ⟨#[97, 98]⟩ 99).1.length ≤ 900000; omega⟩, ⟨show (0 : Int) ≤ 98 by decide, show (98 : Int) < 18446744073709551616 by decide⟩, show (ByteArray.mk #[97]).size ≤ 1000000 by decide⟩, rfl, by (repeat' (first | exact True.intro | rfl | assumption | exact tn_ok rfl | exact tr_ok rfl | exact fun _ => rfl | (refine And.intro ?_ ?_) | (intro _ _; rfl) | ((conv => whnf); (first | exact True.intro | (refine And.intro ?_ ?_))))), by (repeat' (first | exact True.intro | rfl | assumption | exact tn_ok rfl | exact tr_ok rfl | exact fun _ => rfl | (refine And.intro ?_ ?_) | (intro _ _; rfl) | ((conv => whnf); (first | exact True.intro | (refine And.intro ?_ ?_))))), fun T4 R4 ns4 hg4 => ?_⟩
  have hg4 : TG T4 R4 root ns4 (setE (setE m ⟨#[97, 98]⟩ 99).1 ⟨#[97]⟩ 98).1 := hg4
  (conv => whnf)
  refine ⟨⟨T4, R4, root, ns4, (setE (setE m ⟨#[97, 98]⟩ 99).1 ⟨#[97]⟩ 98).1, ⟨#[98]⟩, 0⟩, [0, 1, 2], ⟨hg4, by show (setE (setE m ⟨#[97, 98]⟩ 99).1 ⟨#[97]⟩ 98).1.length ≤ 900000; omega⟩, rfl, by (repeat' (first | exact True.intro | rfl | assumption | exact tn_ok rfl | exact tr_ok rfl | exact fun _ => rfl | (refine And.intro ?_ ?_) | (intro _ _; rfl) | ((conv => whnf); (first | exact True.intro | (refine And.intro ?_ ?_))))), by (repeat' (first | exact True.intro | rfl | assumption | exact tn_ok rfl | exact tr_ok rfl | exact fun _ => rfl | (refine And.intro ?_ ?_) | (intro _ _; rfl) | ((conv => whnf); (first | exact True.intro | (refine And.intro ?_ ?_))))), fun T5 R5 ns5 hg5 => ?_⟩
  (conv => whnf)
  refine ⟨[some 5, some 6, some 7, some 3], _, _, hF, ?_⟩
  (repeat' (first | exact True.intro | rfl | assumption | exact tn_ok rfl | exact tr_ok rfl | exact fun _ => rfl | (refine And.intro ?_ ?_) | (intro _ _; rfl) | ((conv => whnf); (first | exact True.intro | (refine And.intro ?_ ?_)))))
end Go.Proofs.Ytngggdlcanpfgaa
