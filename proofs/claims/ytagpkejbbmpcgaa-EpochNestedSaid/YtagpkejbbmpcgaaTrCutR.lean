/- What Cut and Copy of the trie compute. -/
import Derived.Test.YtagpkejbbmpcgaaTrRefCR
namespace Go.Proofs.Ytagpkejbbmpcgaa
open Go Go.RowKit Sy Ti
set_option maxRecDepth 100000
set_option maxHeartbeats 4000000

theorem eP_t {s : Bs} (h : (!decide (eP s = 0)) = true) : ¬ s.size ≤ 250 := fun q => by
  unfold eP at h
  rw [if_pos q] at h
  cases h
theorem eP_f {s : Bs} (h : (!decide (eP s = 0)) = false) : s.size ≤ 250 := Decidable.byContradiction fun q => by
  unfold eP at h
  rw [if_neg q] at h
  cases h
theorem conCut : ConOk Try.prog (conOf [(44, SChk.T), (33, GUnder.T), (45, GRemove.T)]) :=
  conOf_cons (LSpec.call SChk_nt SChk_ok) (conOf_cons (LSpec.call GUnder_nt GUnder_ok) (conOf_cons (LSpec.call GRemove_nt GRemove_ok) conOf_nil))
/-- A list without some of another one's first entries. -/
def lessR (m L : List Pr) (i : Nat) : List Pr := m.filter fun x => !((L.take i).any fun y => decide (x.1 = y.1))
theorem less_zero {m L : List Pr} : lessR m L 0 = m := List.filter_eq_self.2 fun x _ => by simp
theorem less_next {m L : List Pr} {i : Nat} (hi : i < L.length) : delR (lessR m L i) (L.getD i p00).1 = lessR m L (i + 1) := by
  unfold delR lessR
  rw [List.filter_filter, take_snoc hi]
  congr 1
  funext x
  rw [List.any_append]
  simp only [List.any_cons, List.any_nil, Bool.or_false, Bool.not_or]
  rw [Bool.and_comm]
theorem less_all {m : List Pr} {p : Bs} (hs : SrtP m) : lessR m (undR m p) (undR m p).length = cutR m p := by
  refine srt_ext (hs.filter _) (hs.cutR p) fun x => ?_
  unfold lessR
  rw [List.mem_filter, mem_cutR, List.take_of_length_le (Nat.le_refl _), Bool.not_eq_true', List.any_eq_false]
  constructor
  · rintro ⟨h1, h2⟩
    exact ⟨fun h => h2 x (mem_undR.2 ⟨h, h1⟩) (by simp), h1⟩
  · rintro ⟨h1, h2⟩
    refine ⟨h2, fun y hy e => h1 ?_⟩
    have e : x.1 = y.1 := by simpa using e
    rw [e]
    exact (mem_undR.1 hy).1
theorem less_sz {m L : List Pr} {i : Nat} : (lessR m L i).length ≤ m.length := List.length_filter_le ..
def GCut : LSpec where
  X := GX
  k := 3
  pre x := GOk x
  args x θ := [.ptr (θ 0) 0, .str x.s]
  objs x θ := objsG θ x.T x.R x.root x.m.length
  out x θ R := ∀ T' R' ns', TG T' R' x.root ns' (cutE x.m x.s).1 → R (.tup [i64 (cutE x.m x.s).2.1, i64 (cutE x.m x.s).2.2]) (allG θ T' R' x.root (cutE x.m x.s).1.length)
theorem GCut_nt : GCut.Nt := ⟨fun _ _ => rfl, by unfold GCut objsG; (intros; simp only [ren_all] at *; try assumption), by
  unfold GCut allG
  intro x θ R h T' R' ns' hs
  have := h T' R' ns' hs
  simp only [ren_all]
  exact this⟩
structure CutS where
  T : Tt
  R : RowsN
  ns : List Nat
  i : Nat
theorem GCut_ok : GCut.Ok Try.prog 30 := by
  refine LSpec.of_body noGo mixed conCut Try.func30 rfl (by kernel_rfl) fun ⟨T, M, root, ns, m, s, nn⟩ R hX hR => ?_
  have hg : TG T M root ns m := hX.1
  have hl : m.length ≤ 900000 := hX.2
  have hQ : ∀ T' R' ns', TG T' R' root ns' (cutE m s).1 → R (.tup [i64 (cutE m s).2.1, i64 (cutE m s).2.2]) (allG _root_.id T' R' root (cutE m s).1.length) := hR
  clear hX hR
  show bodyP _ _ _ _ _ [.ptr 0 0, .str s] ⟨3, Tr.ofL 0 (objsG _root_.id T M root m.length) .leaf⟩ _
  (conv => whnf)
  refine ⟨((T, M), (root, (m.length : Int)), s), [0, 1, 2], trivial, rfl, by (repeat' (first | exact True.intro | rfl | assumption | exact tn_ok rfl | exact tr_ok rfl | exact fun _ => rfl | (refine And.intro ?_ ?_) | (intro _ _; rfl) | ((conv => whnf); (first | exact True.intro | (refine And.intro ?_ ?_))))), by (repeat' (first | exact True.intro | rfl | assumption | exact tn_ok rfl | exact tr_ok rfl | exact fun _ => rfl | (refine And.intro ?_ ?_) | (intro _ _; rfl) | ((conv => whnf); (first | exact True.intro | (refine And.intro ?_ ?_))))), ?_⟩
  (conv => whnf)
  constructor
  · intro h
    have h := eP_t h
    have e : cutE m s = (m, 0, 2) := if_neg h
    have ep : eP s = 2 := if_neg h
    rw [e] at hQ
    have hF := hQ T M ns hg
    (conv => whnf)
    refine ⟨[], _, _, hF, ?_⟩
    (repeat' (first | exact True.intro | rfl | assumption | exact tn_ok rfl | exact tr_ok rfl | exact fun _ => rfl | (refine And.intro ?_ ?_) | (intro _ _; rfl) | ((conv => whnf); (first | exact True.intro | (refine And.intro ?_ ?_)))))
    all_goals exact ep.symm
  intro h
  have h := eP_f h
  have e : cutE m s = (cutR m s, ((undR m s).length : Int), 0) := if_pos h
  rw [e] at hQ
  have eu : undE m s = undR m s := if_pos h
  (conv => whnf)
  refine ⟨⟨T, M, root, ns, m, s, 0⟩, [0, 1, 2], ⟨hg, hl⟩, rfl, by (repeat' (first | exact True.intro | rfl | assumption | exact tn_ok rfl | exact tr_ok rfl | exact fun _ => rfl | (refine And.intro ?_ ?_) | (intro _ _; rfl) | ((conv => whnf); (first | exact True.intro | (refine And.intro ?_ ?_))))), by (repeat' (first | exact True.intro | rfl | assumption | exact tn_ok rfl | exact tr_ok rfl | exact fun _ => rfl | (refine And.intro ?_ ?_) | (intro _ _; rfl) | ((conv => whnf); (first | exact True.intro | (refine And.intro ?_ ?_))))), ?_⟩
  (conv => whnf)
  rw [show undE m s = undR m s from eu]
  have hLs : SrtP (undR m s) := hg.cn.ord.undR s
  have hLm : ∀ x ∈ undR m s, x ∈ m := fun x hx => (mem_undR.1 hx).2
  have hall := less_all (p := s) hg.cn.ord
  have hul : (undR m s).length ≤ m.length := List.length_filter_le ..
  generalize undR m s = L at *
  refine .inl ⟨CutS, fun y => [(0, .ptr 0 0), (7, .sl 3 0 2 L.length false), (19, .sl 3 0 2 L.length false), (20, i64 L.length), (21, i64 y.i)], fun y => allG _root_.id y.T y.R root (lessR m L y.i).length ++ [some (prR L)], fun y => L.length - y.i, fun y => y.i ≤ L.length ∧ TG y.T y.R root y.ns (lessR m L y.i), 4, ⟨⟨T, M, ns, 0⟩, [some 3], ⟨Nat.zero_le _, by rw [less_zero]; exact hg⟩, ?_⟩, fun _ => rfl, fun ⟨T1, M1, ns1, i⟩ hi0 => ?_⟩
  · (repeat' (first | exact True.intro | rfl | assumption | exact tn_ok rfl | exact tr_ok rfl | exact fun _ => rfl | (refine And.intro ?_ ?_) | (intro _ _; rfl) | ((conv => whnf); (first | exact True.intro | (refine And.intro ?_ ?_)))))
    all_goals (show ((lessR m L 0).length : Int) = (m.length : Int); rw [less_zero])
  have hi : i ≤ L.length := hi0.1
  have hg1 : TG T1 M1 root ns1 (lessR m L i) := hi0.2
  clear hi0
  have ei := zero_add_toNat i
  have hln := less_sz (m := m) (L := L) (i := i)
  (conv => whnf)
  constructor
  · intro g
    have g : i < L.length := by have : (i : Int) < (L.length : Int) := of_decide_eq_true g; omega
    (conv => whnf)
    refine ⟨by show (0 : Int) ≤ (i : Int); omega, by show (i : Int) < (L.length : Int); omega, ?_⟩
    (conv => whnf)
    rw [ei]
    refine ⟨g, ?_⟩
    have hmi := hLm _ (getD_in g)
    have hsz := (hg.cn.pos hg.ts hmi).2.2
    have hre : (remE (lessR m L i) (L.getD i p00).1).1 = lessR m L (i + 1) := (remE_del hsz).trans (less_next g)
    refine ⟨⟨T1, M1, root, ns1, lessR m L i, (L.getD i p00).1, 0⟩, [0, 1, 2], ⟨hg1, by show (lessR m L i).length ≤ 900000; omega⟩, rfl, by (repeat' (first | exact True.intro | rfl | assumption | exact tn_ok rfl | exact tr_ok rfl | exact fun _ => rfl | (refine And.intro ?_ ?_) | (intro _ _; rfl) | ((conv => whnf); (first | exact True.intro | (refine And.intro ?_ ?_))))), by (repeat' (first | exact True.intro | rfl | assumption | exact tn_ok rfl | exact tr_ok rfl | exact fun _ => rfl | (refine And.intro ?_ ?_) | (intro _ _; rfl) | ((conv => whnf); (first | exact True.intro | (refine And.intro ?_ ?_))))), fun T2 R2 ns2 hg2 => ?_⟩
    have hg2 : TG T2 R2 root ns2 (remE (lessR m L i) (L.getD i p00).1).1 := hg2
    have hg3 := hg2
    rw [hre] at hg3
    (conv => whnf)
    refine ⟨⟨T2, R2, ns2, i + 1⟩, [some 3], by show L.length - (i + 1) < L.length - i; omega, ⟨by show i + 1 ≤ L.length; omega, hg3⟩, ?_⟩
    (repeat' (first | exact True.intro | rfl | assumption | exact tn_ok rfl | exact tr_ok rfl | exact fun _ => rfl | (refine And.intro ?_ ?_) | (intro _ _; rfl) | ((conv => whnf); (first | exact True.intro | (refine And.intro ?_ ?_)))))
    all_goals first | exact (wrap_inc g (by omega)).symm | (show ((lessR m L (i + 1)).length : Int) = ((remE (lessR m L i) (L.getD i p00).1).1.length : Int); rw [hre])
  · intro g
    have g : i = L.length := by have : ¬ (i : Int) < (L.length : Int) := of_decide_eq_false g; omega
    rw [g, hall] at hg1
    have hF := hQ T1 M1 ns1 hg1
    (conv => whnf)
    refine ⟨[], _, _, hF, ?_⟩
    (repeat' (first | exact True.intro | rfl | assumption | exact tn_ok rfl | exact tr_ok rfl | exact fun _ => rfl | (refine And.intro ?_ ?_) | (intro _ _; rfl) | ((conv => whnf); (first | exact True.intro | (refine And.intro ?_ ?_)))))
    all_goals (show ((cutR m s).length : Int) = ((lessR m L i).length : Int); rw [g, hall])
end Go.Proofs.Ytagpkejbbmpcgaa
