/- What Cut and Copy of the trie compute. -/
import Derived.Test.YtagpkejbbmpcgaaTrRefCR
namespace Go.Proofs.Ytagpkejbbmpcgaa
open Go Go.RowKit Sy Ti
set_option maxRecDepth 100000
set_option maxHeartbeats 4000000

theorem eP_t {s : Bs} (h : (!decide (eP s = 0)) = true) : ¬ s.size ≤ 250 := fun q => by
  unfold eP at h
  rw [if_pos q] at h
  cases h
theorem eP_f {s : Bs} (h : (!decide (eP s = 0)) = false) : s.size ≤ 250 := Decidable.byContradiction fun q => by
  unfold eP at h
  rw [if_neg q] at h
  cases h
theorem conCut : ConOk Try.prog (conOf [(44, SChk.T), (33, GUnder.T), (45, GRemove.T)]) :=
  conOf_cons (LSpec.call SChk_nt SChk_ok) (conOf_cons (LSpec.call GUnder_nt GUnder_ok) (conOf_cons (LSpec.call GRemove_nt GRemove_ok) conOf_nil))
/-- A list without some of another one's first entries. -/
def lessR (m L : List Pr) (i : Nat) : List Pr := m.filter fun x => !((L.take i).any fun y => decide (x.1 = y.1))
theorem less_zero {m L : List Pr} : lessR m L 0 = m := List.filter_eq_self.2 fun x _ => by simp
theorem less_next {m L : List Pr} {i : Nat} (hi : i < L.length) : delR (lessR m L i) (L.getD i p00).1 = lessR m L (i + 1) := by
  unfold delR lessR
  rw [List.filter_filter, take_snoc hi]
  congr 1
  funext x
  rw [List.any_append]
  simp only [List.any_cons, List.any_nil, Bool.or_false, Bool.not_or]
  rw [Bool.and_comm]
theorem less_all {m : List Pr} {p : Bs} (hs : SrtP m) : lessR m (undR m p) (undR m p).length = cutR m p := by
  refine srt_ext (hs.filter _) (hs.cutR p) fun x => ?_
  unfold lessR
  rw [List.mem_filter, mem_cutR, List.take_of_length_le (Nat.le_refl _), Bool.not_eq_true', List.any_eq_false]
  constructor
  · rintro ⟨h1, h2⟩
    exact ⟨fun h => h2 x (mem_undR.2 ⟨h, h1⟩) (by simp), h1⟩
  · rintro ⟨h1, h2⟩
    refine ⟨h2, fun y hy e => h1 ?_⟩
    have e : x.1 = y.1 := by simpa using e
    rw [e]
    exact (mem_undR.1 hy).1
theorem less_sz {m L : List Pr} {i : Nat} : (lessR m L i).length ≤ m.length := List.length_filter_le ..
def GCut : LSpec where
  X := GX
  k := 3
  pre x := GOk x
  args x θ := [.ptr (θ 0) 0, .str x.s]
  objs x θ := objsG θ x.T x.R x.root x.m.length
  out x θ R := ∀ T' R' ns', TG T' R' x.root ns' (cutE x.m x.s).1 → R (.tup [i64 (cutE x.m x.s).2.1, i64 (cutE x.m x.s).2.2]) (allG θ T' R' x.root (cutE x.m x.s).1.length)
theorem GCut_nt : GCut.Nt := ⟨fun _ _ => rfl, by unfold GCut objsG; (intros; simp only [ren_all] at *; try assumption), by
  unfold GCut allG
  intro x θ R h T' R' ns' hs
  have := h T' R' ns' hs
  simp only [ren_all]
  exact this⟩
structure CutS where
  T : Tt
  R : RowsN
  ns : List Nat
  i : Nat
theorem GCut_ok : GCut.Ok Try.prog 30 := by
  refine LSpec.of_body noGo mixed conCut Try.func30 rfl (by kernel_rfl) fun ⟨T, M, root, ns, m, s, nn⟩ R hX hR => ?_
  have hg : TG T M root ns m := hX.1
  have hl : m.length ≤ 900000 := hX.2
  have hQ : ∀ T' R' ns', TG T' R' root ns' (cutE m s).1 → R (.tup [i64 (cutE m s).2.1, i64 (cutE m s).2.2]) (allG _root_.id T' R' root (cutE m s).1.length) := hR
  clear hX hR
  show bodyP _ _ _ _ _ [.ptr 0 0, .str s] ⟨3, Tr.ofL 0 (objsG _root_.id T M root m.length) .leaf⟩ _
  (conv => whnf)
  refine ⟨((T, M), (root, (m.length : Int)), s), [0, 1, 2], trivial, rfl, by (repeat' (first | exact True.intro | rfl | assumption | exact tn_ok rfl | exact tr_ok rfl | exact fun _ => rfl | (refine And.intro ?_ ?_) | (intro _ _; rfl) | ((conv => whnf); (first | exact True.intro | (refine And.intro ?_ ?_))))), by (repeat' (first | exact True.intro | rfl | assumption | exact tn_ok rfl | exact tr_ok rfl | exact fun _ => rfl | (refine And.intro ?_ ?_) | (intro _ _; rfl) | ((conv => whnf); (first | exact True.intro | (refine And.intro ?_ ?_))))), ?_⟩
  (conv => whnf)
  constructor
  · intro h
    have h := eP_t h
    have e : cutE m s = (m, 0, 2) := if_neg h
    have ep : eP s = 2 := if_neg h
    rw [e] at hQ
    have hF := hQ T M ns hg
    (conv => whnf)
    refine ⟨[], _, _, hF, ?_⟩
    (repeat' (first | exact True.intro | rfl | assumption | exact tn_ok rfl | exact tr_ok rfl | exact fun _ => rfl | (refine And.intro ?_ ?_) | (intro _ _; rfl) | ((conv => whnf); (first | exact True.intro | (refine And.intro ?_ ?_)))))
    all_goals exact ep.symm
  intro h
  have h := eP_f h
  have e : cutE m s = (cutR m s, ((undR m s).length : Int), 0) := if_pos h
  rw [e] at hQ
  have eu : undE m s = undR m s := if_pos h
  (conv => whnf)
  refine ⟨⟨T, M, root, ns, m, s, 0⟩, [0, 1, 2], ⟨hg, hl⟩, rfl, by (repeat' (first | exact True.intro | rfl | assumption | exact tn_ok rfl | exact tr_ok rfl | exact fun _ => rfl | (refine And.intro ?_ ?_) | (intro _ _; rfl) | ((conv => whnf); (first | exact True.intro | (refine And.intro ?_ ?_))))), by (repeat' (first | exact True.intro | rfl | assumption | exact tn_ok rfl | exact tr_ok rfl | exact fun _ => rfl | (refine And.intro ?_ ?_) | (intro _ _; rfl) | ((conv => whnf); (first | exact True.intro | (refine And.intro ?_ ?_))))), ?_⟩
  (conv => whnf)
  rw [show undE m s = undR m s from eu]
  have hLs : SrtP (undR m s) := hg.cn.ord.undR s
  have hLm : ∀ x ∈ undR m s, x ∈ m := fun x hx => (mem_undR.1 hx).2
  have hall := less_all (p := s) hg.cn.ord
  have hul : (undR m s).length ≤ m.length := List.length_filter_le ..
  generalize undR m s = L at *
  refine .inl ⟨CutS, fun y => [(0, .ptr 0 0), (7, .sl 3 0 2 L.length false), (19, .sl 3 0 2 L.length false), (20, i64 L.length), (21, i64 y.i)], fun y => allG _root_.id y.T y.R root (lessR m L y.i).length ++ [some (prR L)], fun y => L.length - y.i, fun y => y.i ≤ L.length ∧ TG y.T y.R root y.ns (lessR m L y.i), 4, ⟨⟨T, M, ns, 0⟩, [some 3], ⟨Nat.zero_le _, by rw [less_zero]; exact hg⟩, ?_⟩, fun _ => rfl, fun ⟨T1, M1, ns1, i⟩ hi0 => ?_⟩
  · (repeat' (first | exact True.intro | rfl | assumption | exact tn_ok rfl | exact tr_ok rfl | exact fun _ => rfl | (refine And.intro ?_ ?_) | (intro _ _; rfl) | ((conv => whnf); (first | exact True.intro | (refine And.intro ?_ ?_)))))
    all_goals (show ((lessR m L 0).length : Int) = (m.length : Int); rw [less_zero])
  have hi : i ≤ L.length := hi0.1
  have hg1 : TG T1 M1 root ns1 (lessR m L i) := hi0.2
  clear hi0
  have ei := zero_add_toNat i
  have hln := less_sz (m := m) (L := L) (i := i)
  (conv => whnf)
  constructor
  · intro g
    have g : i < L.length := by have : (i : Int) < (L.length : Int) := of_decide_eq_true g; omega
    (conv => whnf)
    refine ⟨by show (0 : Int) ≤ (i : Int); omega, by show (i : Int) < (L.length : Int); omega, ?_⟩
    (conv => whnf)
    rw [ei]
    refine ⟨g, ?_⟩
    have hmi := hLm _ (getD_in g)
    have hsz := (hg.cn.pos hg.ts hmi).2.2
    have hre : (remE (lessR m L i) (L.getD i p00).1).1 = lessR m L (i + 1) := (remE_del hsz).trans (less_next g)
    refine ⟨⟨T1, M1, root, ns1, lessR m L i, (L.getD i p00).1, 0⟩, [0, 1, 2], ⟨hg1, by show (lessR m L i).length ≤ 900000; omega⟩, rfl, by (repeat' (first | exact True.intro | rfl | assumption | exact tn_ok rfl | exact tr_ok rfl | exact fun _ => rfl | (refine And.intro ?_ ?_) | (intro _ _; rfl) | ((conv => whnf); (first | exact True.intro | (refine And.intro ?_ ?_))))), by (repeat' (first | exact True.intro | rfl | assumption | exact tn_ok rfl | exact tr_ok rfl | exact fun _ => rfl | (refine And.intro ?_ ?_) | (intro _ _; rfl) | ((conv => whnf); (first | exact True.intro | (refine And.intro ?_ ?_))))), fun T2 R2 ns2 hg2 => ?_⟩
    have hg2 : TG T2 R2 root ns2 (remE (lessR m L i) (L.getD i p00).1).1 := hg2
    have hg3 := hg2
    rw [hre] at hg3
    (conv => whnf)
    refine ⟨⟨T2, R2, ns2, i + 1⟩, [some 3], by show L.length - (i + 1) < L.length - i; omega, ⟨by show i + 1 ≤ L.length; omega, hg3⟩, ?_⟩
    (repeat' (first | exact True.intro | rfl | assumption | exact tn_ok rfl | exact tr_ok rfl | exact fun _ => rfl | (refine And.intro ?_ ?_) | (intro _ _; rfl) | ((conv => whnf); (first | exact True.intro | (refine And.intro ?_ ?_)))))
    all_goals first | exact (wrap_inc g (by omega)).symm | (show ((lessR m L (i + 1)).length : Int) = ((remE (lessR m L i) (L.getD i p00).1).1.length : Int); rw [hre])
  · intro g
    have g : i = L.length := by have : ¬ (i : Int) < (L.length : Int) := of_decide_eq_false g; omega
    rw [g, hall] at hg1
    have hF := hQ T1 M1 ns1 hg1
    (conv => whnf)
    refine ⟨[], _, _, hF, ?_⟩
    (repeat' (first | exact True.intro | rfl | assumption | exact tn_ok rfl | exact tr_ok rfl | exact fun _ => rfl | (refine And.intro ?_ ?_) | (intro _ _; rfl) | ((conv => whnf); (first | exact True.intro | (refine And.intro ?_ ?_)))))
    all_goals (show ((cutR m s).length : Int) = ((lessR m L i).length : Int); rw [g, hall])
/-! Copy -/
theorem conCopy : ConOk Try.prog (conOf [(44, SChk.T), (33, GUnder.T), (31, GSet.T), (27, SNew.T)]) :=
  conOf_cons (LSpec.call SChk_nt SChk_ok) (conOf_cons (LSpec.call GUnder_nt GUnder_ok) (conOf_cons (LSpec.call GSet_nt GSet_ok) (conOf_cons (LSpec.call SNew_nt SNew_ok) conOf_nil)))
theorem set_last {m : List Pr} {x : Pr} (h : SrtP (m ++ [x])) : setR m x.1 x.2 = m ++ [x] := by
  obtain ⟨h1, _, h3⟩ := List.pairwise_append.1 h
  refine srt_ext (SrtP.setR h1 _ _) h fun y => ?_
  rw [mem_setR, List.mem_append, List.mem_singleton]
  constructor
  · rintro (e | ⟨_, e⟩)
    · exact .inr e
    · exact .inl e
  · rintro (e | e)
    · exact .inr ⟨fun q => by have := h3 y e x (List.mem_singleton.2 rfl); rw [q] at this; exact by_irr _ this, e⟩
    · exact .inl e
def GCopy : LSpec where
  X := GX
  k := 3
  pre x := GOk x
  args _ θ := [.ptr (θ 0) 0]
  objs x θ := objsG θ x.T x.R x.root x.m.length
  out x θ R := ∀ T' R' root' ns', TG T' R' root' ns' x.m → R (.ptr (θ 3) 0) (allG θ x.T x.R x.root x.m.length ++ [some (trC (θ 4) root' x.m.length), some (tnO (θ 5) T'), some (trO (θ 4) R')])
theorem GCopy_nt : GCopy.Nt := ⟨fun _ _ => rfl, by unfold GCopy objsG; (intros; simp only [ren_all] at *; try assumption), by
  unfold GCopy allG
  intro _ θ R h T' R' root' ns' hs
  have := h T' R' root' ns' hs
  simp only [ren_all]
  exact this⟩
theorem GCopy_ok : GCopy.Ok Try.prog 43 := by
  refine LSpec.of_body noGo mixed conCopy Try.func43 rfl (by kernel_rfl) fun ⟨T, M, root, ns, m, s0, nn⟩ R hX hR => ?_
  have hg : TG T M root ns m := hX.1
  have hl : m.length ≤ 900000 := hX.2
  have hQ : ∀ T' R' root' ns', TG T' R' root' ns' m → R (.ptr 3 0) (allG _root_.id T M root m.length ++ [some (trC 4 root' m.length), some (tnO 5 T'), some (trO 4 R')]) := hR
  clear hX hR
  show bodyP _ _ _ _ _ [.ptr 0 0] ⟨3, Tr.ofL 0 (objsG _root_.id T M root m.length) .leaf⟩ _
  (conv => whnf)
  refine ⟨((T, M), (root, (m.length : Int)), eS), [0, 1, 2], trivial, rfl, by (repeat' (first | exact True.intro | rfl | assumption | exact tn_ok rfl | exact tr_ok rfl | exact fun _ => rfl | (refine And.intro ?_ ?_) | (intro _ _; rfl) | ((conv => whnf); (first | exact True.intro | (refine And.intro ?_ ?_))))), by (repeat' (first | exact True.intro | rfl | assumption | exact tn_ok rfl | exact tr_ok rfl | exact fun _ => rfl | (refine And.intro ?_ ?_) | (intro _ _; rfl) | ((conv => whnf); (first | exact True.intro | (refine And.intro ?_ ?_))))), ?_⟩
  (conv => whnf)
  constructor
  · intro h
    exact Bool.noConfusion (show false = true from h)
  intro _
  (conv => whnf)
  refine ⟨(), [], trivial, rfl, by (repeat' (first | exact True.intro | rfl | assumption | exact tn_ok rfl | exact tr_ok rfl | exact fun _ => rfl | (refine And.intro ?_ ?_) | (intro _ _; rfl) | ((conv => whnf); (first | exact True.intro | (refine And.intro ?_ ?_))))), by (repeat' (first | exact True.intro | rfl | assumption | exact tn_ok rfl | exact tr_ok rfl | exact fun _ => rfl | (refine And.intro ?_ ?_) | (intro _ _; rfl) | ((conv => whnf); (first | exact True.intro | (refine And.intro ?_ ?_))))), fun y => ?_⟩
  (conv => whnf)
  have eu : undE m eS = m := (if_pos (by decide)).trans (undR_eS m)
  refine ⟨⟨T, M, root, ns, m, eS, 0⟩, [0, 1, 2], ⟨hg, hl⟩, rfl, by (repeat' (first | exact True.intro | rfl | assumption | exact tn_ok rfl | exact tr_ok rfl | exact fun _ => rfl | (refine And.intro ?_ ?_) | (intro _ _; rfl) | ((conv => whnf); (first | exact True.intro | (refine And.intro ?_ ?_))))), by (repeat' (first | exact True.intro | rfl | assumption | exact tn_ok rfl | exact tr_ok rfl | exact fun _ => rfl | (refine And.intro ?_ ?_) | (intro _ _; rfl) | ((conv => whnf); (first | exact True.intro | (refine And.intro ?_ ?_))))), ?_⟩
  (conv => whnf)
  rw [show undE m eS = m from eu]
  refine .inl ⟨CutS × Nat, fun y => [(3, .ptr 3 0), (11, .sl 6 0 2 m.length false), (12, i64 m.length), (13, i64 y.1.i)], fun y => allG _root_.id T M root m.length ++ [some (trC 4 y.2 (m.take y.1.i).length), some (tnO 5 y.1.T), some (trO 4 y.1.R), some (prR m)], fun y => m.length - y.1.i, fun y => y.1.i ≤ m.length ∧ TG y.1.T y.1.R y.2 y.1.ns (m.take y.1.i), 7, ⟨(⟨newT y, noR, [y], 0⟩, y), [some 3, some 4, some 5, some 6], ⟨Nat.zero_le _, newT_tg y⟩, ?_⟩, fun _ => rfl, fun ⟨⟨T1, M1, ns1, i⟩, r1⟩ hi0 => ?_⟩
  · (repeat' (first | exact True.intro | rfl | assumption | exact tn_ok rfl | exact tr_ok rfl | exact fun _ => rfl | (refine And.intro ?_ ?_) | (intro _ _; rfl) | ((conv => whnf); (first | exact True.intro | (refine And.intro ?_ ?_)))))
  have hi : i ≤ m.length := hi0.1
  have hg1 : TG T1 M1 r1 ns1 (m.take i) := hi0.2
  clear hi0
  have ei := zero_add_toNat i
  have hln : (m.take i).length ≤ m.length := List.length_take_le' ..
  (conv => whnf)
  constructor
  · intro g
    have g : i < m.length := by have : (i : Int) < (m.length : Int) := of_decide_eq_true g; omega
    (conv => whnf)
    refine ⟨by show (0 : Int) ≤ (i : Int); omega, by show (i : Int) < (m.length : Int); omega, ?_⟩
    (conv => whnf)
    rw [ei]
    refine ⟨g, ?_⟩
    (conv => whnf)
    have hp := hg.cn.pos hg.ts (getD_in g)
    have hse : setE (m.take i) (m.getD i p00).1 (m.getD i p00).2 = (m.take (i + 1), 0) := by
      refine (if_pos ⟨hp.2.2, by omega⟩).trans ?_
      rw [take_snoc g, set_last]
      rw [← take_snoc g]
      exact List.Pairwise.sublist (List.take_sublist ..) hg.cn.ord
    refine ⟨⟨T1, M1, r1, ns1, m.take i, (m.getD i p00).1, (m.getD i p00).2⟩, [3, 4, 5], ⟨⟨hg1, by show (m.take i).length ≤ 900000; omega⟩, ⟨by show 0 ≤ (m.getD i p00).2; omega, hp.2.1⟩, by show (m.getD i p00).1.size ≤ 1000000; omega⟩, rfl, by (repeat' (first | exact True.intro | rfl | assumption | exact tn_ok rfl | exact tr_ok rfl | exact fun _ => rfl | (refine And.intro ?_ ?_) | (intro _ _; rfl) | ((conv => whnf); (first | exact True.intro | (refine And.intro ?_ ?_))))), by (repeat' (first | exact True.intro | rfl | assumption | exact tn_ok rfl | exact tr_ok rfl | exact fun _ => rfl | (refine And.intro ?_ ?_) | (intro _ _; rfl) | ((conv => whnf); (first | exact True.intro | (refine And.intro ?_ ?_))))), fun T2 R2 ns2 hg2 => ?_⟩
    have hg2 : TG T2 R2 r1 ns2 (setE (m.take i) (m.getD i p00).1 (m.getD i p00).2).1 := hg2
    rw [hse] at hg2
    (conv => whnf)
    refine ⟨(⟨T2, R2, ns2, i + 1⟩, r1), [some 3, some 4, some 5, some 6], by show m.length - (i + 1) < m.length - i; omega, ⟨by show i + 1 ≤ m.length; omega, hg2⟩, ?_⟩
    (repeat' (first | exact True.intro | rfl | assumption | exact tn_ok rfl | exact tr_ok rfl | exact fun _ => rfl | (refine And.intro ?_ ?_) | (intro _ _; rfl) | ((conv => whnf); (first | exact True.intro | (refine And.intro ?_ ?_)))))
    all_goals first | exact (wrap_inc g (by omega)).symm | (show ((m.take (i + 1)).length : Int) = ((setE (m.take i) (m.getD i p00).1 (m.getD i p00).2).1.length : Int); rw [hse])
  · intro g
    have g : i = m.length := by have : ¬ (i : Int) < (m.length : Int) := of_decide_eq_false g; omega
    rw [g, List.take_of_length_le (Nat.le_refl _)] at hg1
    have hF := hQ T1 M1 r1 ns1 hg1
    (conv => whnf)
    refine ⟨[some 3, some 4, some 5], _, _, hF, ?_⟩
    (repeat' (first | exact True.intro | rfl | assumption | exact tn_ok rfl | exact tr_ok rfl | exact fun _ => rfl | (refine And.intro ?_ ?_) | (intro _ _; rfl) | ((conv => whnf); (first | exact True.intro | (refine And.intro ?_ ?_)))))
    all_goals (show (m.length : Int) = ((m.take i).length : Int); rw [g, List.take_of_length_le (Nat.le_refl _)])
end Go.Proofs.Ytagpkejbbmpcgaa
