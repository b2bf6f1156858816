/- What Restore computes. -/
import Derived.Test.YtagpkejbbmpcgaaEpSortR
import Derived.Test.YtagpkejbbmpcgaaEpSameR
import Derived.Test.YtagpkejbbmpcgaaEpRes0R
namespace Go.Proofs.Ytagpkejbbmpcgaa
open Go Go.RowKit Sy Ti
set_option maxRecDepth 100000
set_option maxHeartbeats 8000000

theorem conCo : ConOk Try.prog (conOf [(69, inl Try.prog (conOf []) Try.f69)]) := conOf_cons (inl_ok noGo mixed conOf_nil Try.func69 (by kernel_rfl)) conOf_nil
theorem conSo : ConOk Try.prog (conOf [(56, inl Try.prog (conOf [(69, inl Try.prog (conOf []) Try.f69)]) Try.f56), (57, SSort.T)]) :=
  conOf_cons (inl_ok noGo mixed conCo Try.func56 (by kernel_rfl)) (conOf_cons (LSpec.call SSort_nt SSort_ok) conOf_nil)
theorem conRes : ConOk Try.prog (conOf [(38, inl Try.prog (conOf []) Try.f38),
    (37, inl Try.prog (conOf [(56, inl Try.prog (conOf [(69, inl Try.prog (conOf []) Try.f69)]) Try.f56), (57, SSort.T)]) Try.f37), (9, ENew.T), (10, EPurge.T), (14, EList.T), (41, SEqual.T)]) :=
  conOf_cons (inl_ok noGo mixed conOf_nil Try.func38 (by kernel_rfl)) (conOf_cons (inl_ok noGo mixed conSo Try.func37 (by kernel_rfl)) (conOf_cons (LSpec.call ENew_nt ENew_ok) (conOf_cons (LSpec.call EPurge_nt EPurge_ok) (conOf_cons (LSpec.call EList_nt EList_ok) (conOf_cons (LSpec.call SEqual_nt SEqual_ok) conOf_nil)))))
def ERestore : LSpec where
  X := (Int × Int) × List Pr
  k := 1
  pre x := (0 ≤ x.1.1 ∧ x.1.1 < 18446744073709551616) ∧ x.2.length ≤ 1000 ∧ ∀ y ∈ x.2, y.2 < 18446744073709551616
  args x θ := [u64 x.1.1, u64 x.1.2, .sl (θ 0) 0 2 x.2.length false]
  objs x _ := [prR x.2]
  out x θ R := (RightP x.1.1 x.1.2 x.2 → ∀ T' R' root' ns', TG T' R' root' ns' x.2 → R (.tup [.ptr (θ 1) 0, i64 0]) [some (prR x.2), some (epC (θ 2) x.1.1 x.1.2), some (trC (θ 3) root' x.2.length), some (tnO (θ 4) T'), some (trO (θ 3) R')]) ∧ (¬ RightP x.1.1 x.1.2 x.2 → R (.tup [.nilp, i64 2]) [some (prR x.2)])
theorem ERestore_nt : ERestore.Nt := ⟨fun _ _ => rfl, fun _ _ => rfl, fun x θ R h => by
  refine ⟨fun hr T' R' root' ns' hg => ?_, fun hr => h.2 hr⟩
  have h := h.1 hr T' R' root' ns' hg
  show R (.tup [.ptr (θ 1) 0, i64 0]) ([some (prR x.2), some (epC 2 x.1.1 x.1.2), some (trC 3 root' x.2.length), some (tnO 4 T'), some (trO 3 R')].map (Option.map (SObj.ren θ)))
  simp only [List.map_cons, List.map_nil, Option.map_some, prR_ren, epC_ren, trC_ren, tnO_ren, trO_ren]
  exact h⟩
theorem fn_push {L : Nat → Pr} {i : Nat} (q : Nat) (hq : q < i + 1) : prV (L q) = appF i (fun q => prV (L (0 + q))) (fun q => chunk [.str (L i).1, u64 (L i).2] 2 (0 + q)) q := by
  unfold appF
  rcases Nat.lt_or_ge q i with h | h
  · rw [show Nat.blt q i = true from Nat.ble_eq_true_of_le h]
    simp only [cond_true, Nat.zero_add]
  · obtain rfl : q = i := by omega
    rw [show Nat.blt q q = false from by cases hb : Nat.blt q q with | false => rfl | true => exact absurd (blt_lt hb) (by omega)]
    simp only [cond_false, Nat.sub_self]
    rfl
theorem list_range {m0 : List Pr} : (List.range m0.length).map (fun j => m0.getD j p00) = m0 := by
  refine List.ext_getElem (by simp) fun j h1 h2 => ?_
  rw [List.getElem_map, List.getElem_range, List.getD_eq_getElem?_getD, List.getElem?_eq_getElem h2]
  rfl
theorem map_getD {n : Nat} {D : Nat → Pr} {i : Nat} (h : i < n) : ((List.range n).map D).getD i p00 = D i := by
  rw [List.getD_eq_getElem?_getD, List.getElem?_map, List.getElem?_range h]
  rfl
theorem purE_len {m : List Pr} {l : Int} {s : Bs} {n : Int} (h : SrtP m) : (purE m l s n).1.length ≤ m.length + 1 := by
  unfold purE
  split
  · show (setR (cutR m s) s n).length ≤ _
    rw [setR_del (h.cutR s)]
    have h1 : (delR (cutR m s) s).length ≤ (cutR m s).length := List.length_filter_le ..
    have h2 : (cutR m s).length ≤ m.length := List.length_filter_le ..
    omega
  · exact Nat.le_succ _
structure ReS where
  T : Tt
  R : RowsN
  ns : List Nat
  m : List Pr
  l : Int
  i : Nat
theorem ERestore_ok : ERestore.Ok Try.prog 24 := by
  refine LSpec.of_body noGo mixed conRes Try.func24 rfl (by kernel_rfl) fun ⟨⟨f, last⟩, m0⟩ R ⟨hf, hlen, hrg⟩ hR => ?_
  have hf : 0 ≤ f ∧ f < 18446744073709551616 := hf
  have hlen : m0.length ≤ 1000 := hlen
  have hrg : ∀ y ∈ m0, y.2 < 18446744073709551616 := hrg
  have hQ1 : RightP f last m0 → ∀ T' R' root' ns', TG T' R' root' ns' m0 → R (.tup [.ptr 1 0, i64 0]) [some (prR m0), some (epC 2 f last), some (trC 3 root' m0.length), some (tnO 4 T'), some (trO 3 R')] := hR.1
  have hQ2 : ¬ RightP f last m0 → R (.tup [.nilp, i64 2]) [some (prR m0)] := hR.2
  clear hR
  show bodyP _ _ _ _ _ [u64 f, u64 last, .sl 0 0 2 m0.length false] ⟨1, Tr.ofL 0 [prR m0] .leaf⟩ _
  (conv => whnf)
  refine ⟨(), [], trivial, rfl, by (repeat' (first | exact True.intro | rfl | assumption | exact tn_ok rfl | exact tr_ok rfl | exact fun _ => rfl | (refine And.intro ?_ ?_) | (intro _ _; rfl) | ((conv => whnf); (first | exact True.intro | (refine And.intro ?_ ?_))))), by (repeat' (first | exact True.intro | rfl | assumption | exact tn_ok rfl | exact tr_ok rfl | exact fun _ => rfl | (refine And.intro ?_ ?_) | (intro _ _; rfl) | ((conv => whnf); (first | exact True.intro | (refine And.intro ?_ ?_))))), fun y => ?_⟩
  have hg0 := newT_tg y
  generalize newT y = T0 at *
  generalize noR = M0 at *
  generalize [y] = n0 at *
  (conv => whnf)
  refine with_lp 8 ?_
  intro lp
  refine .inl ⟨Nat, fun i => [(0, .yl 8), (5, .sl 0 0 2 m0.length false), (6, i64 m0.length), (7, i64 i)], fun i => [some (prR m0), some (epC 2 f f), some (trC 3 y 0), some (tnO 4 T0), some (trO 3 M0), some (.cells [.sl 0 0 2 m0.length false] 30), some (.cells [.sl 9 0 2 i false] 30), some .mark, some lp, some (psR i fun j => m0.getD j p00)], fun i => m0.length - i, fun i => i ≤ m0.length, 10, ⟨0, [none], Nat.zero_le _, ?_⟩, fun _ => rfl, fun i hi => ?_⟩
  · (repeat' (first | exact True.intro | rfl | assumption | exact tn_ok rfl | exact tr_ok rfl | exact fun _ => rfl | (refine And.intro ?_ ?_) | (intro _ _; rfl) | ((conv => whnf); (first | exact True.intro | (refine And.intro ?_ ?_)))))
  have hi : i ≤ m0.length := hi
  have ei := zero_add_toNat i
  (conv => whnf)
  constructor
  · intro hlt
    have hlt : i < m0.length := by have : (i : Int) < (m0.length : Int) := of_decide_eq_true hlt; omega
    have hiN : 0 + ((i : Nat) : Int).toNat < m0.length := by rw [ei]; exact hlt
    (conv => whnf)
    refine ⟨by show (0 : Int) ≤ (i : Int); omega, by show (i : Int) < (m0.length : Int); omega, ?_⟩
    (conv => whnf)
    refine ⟨hiN, ?_⟩
    rw [ei]
    (conv => whnf)
    refine ⟨some (fun q => prV (m0.getD q p00)), ?_⟩
    (conv => whnf)
    refine ⟨by decide, by show 0 + i ≤ i; omega, by show (i + 1) * (24 + 2) ≤ 1000000000; omega, fun q hq => fn_push (L := fun j => m0.getD j p00) q hq, ?_⟩
    (conv => whnf)
    refine ⟨i + 1, [some 13], by show m0.length - (i + 1) < m0.length - i; omega, by show i + 1 ≤ m0.length; omega, ?_⟩
    refine ⟨rfl, ?_, ?_⟩
    · (repeat' (first | exact True.intro | rfl | assumption | exact tn_ok rfl | exact tr_ok rfl | exact fun _ => rfl | (refine And.intro ?_ ?_) | (intro _ _; rfl) | ((conv => whnf); (first | exact True.intro | (refine And.intro ?_ ?_)))))
    · (repeat' (first | exact True.intro | rfl | assumption | exact tn_ok rfl | exact tr_ok rfl | exact fun _ => rfl | (refine And.intro ?_ ?_) | (intro _ _; rfl) | ((conv => whnf); (first | exact True.intro | (refine And.intro ?_ ?_)))))
      exact (wrap_inc hlt (by omega)).symm
  intro hlt
  have hlt : i = m0.length := by have : ¬ (i : Int) < (m0.length : Int) := of_decide_eq_false hlt; omega
  subst hlt
  clear hi ei
  (conv => whnf)
  refine ⟨(m0.length, fun j => m0.getD j p00), [9], by show m0.length ≤ 1000000; omega, rfl, by (repeat' (first | exact True.intro | rfl | assumption | exact tn_ok rfl | exact tr_ok rfl | exact fun _ => rfl | (refine And.intro ?_ ?_) | (intro _ _; rfl) | ((conv => whnf); (first | exact True.intro | (refine And.intro ?_ ?_))))), by (repeat' (first | exact True.intro | rfl | assumption | exact tn_ok rfl | exact tr_ok rfl | exact fun _ => rfl | (refine And.intro ?_ ?_) | (intro _ _; rfl) | ((conv => whnf); (first | exact True.intro | (refine And.intro ?_ ?_))))), fun D hp hs => ?_⟩
  have hp : ((List.range m0.length).map D).Perm m0 := by
    have hp : ((List.range m0.length).map D).Perm ((List.range m0.length).map fun j => m0.getD j p00) := hp
    rwa [list_range] at hp
  have hs : ∀ i j, i < j → j < m0.length → ¬ ltN (D j) (D i) := hs
  (conv => whnf)
  obtain ⟨w, hw⟩ : ∃ w, w = (List.range m0.length).map D := ⟨_, rfl⟩
  rw [← hw] at hp
  have hwl : w.length = m0.length := by rw [hw]; simp
  have hwD : ∀ j, j < m0.length → w.getD j p00 = D j := fun j hj => by rw [hw]; exact map_getD hj
  refine .inl ⟨ReS, fun x => [(1, u64 last), (2, .sl 0 0 2 m0.length false), (8, .ptr 1 0), (24, .sl 5 0 2 m0.length false), (25, i64 m0.length), (26, i64 x.i)], fun x => [some (prR m0), some (epC 2 f x.l), some (trC 3 y x.m.length), some (tnO 4 x.T), some (trO 3 x.R), some (psR m0.length D)], fun x => m0.length - x.i, fun x => (x.i ≤ m0.length ∧ x.m.length ≤ x.i) ∧ TG x.T x.R y x.ns x.m ∧ PI f (w.take x.i) x.m x.l, 6, ⟨⟨T0, M0, n0, [], f, 0⟩, [some 1, some 2, some 3, some 4, some 9], ⟨⟨Nat.zero_le _, Nat.le_refl 0⟩, hg0, PI.start⟩, ?_⟩, fun _ => rfl, fun ⟨T, M, ns, m, l, i⟩ hi0 => ?_⟩
  · (repeat' (first | exact True.intro | rfl | assumption | exact tn_ok rfl | exact tr_ok rfl | exact fun _ => rfl | (refine And.intro ?_ ?_) | (intro _ _; rfl) | ((conv => whnf); (first | exact True.intro | (refine And.intro ?_ ?_)))))
  have hi : i ≤ m0.length := hi0.1.1
  have hml : m.length ≤ i := hi0.1.2
  have hg : TG T M y ns m := hi0.2.1
  have hpi : PI f (w.take i) m l := hi0.2.2
  clear hi0
  have ei := zero_add_toNat i
  have hl0 := hpi.le
  (conv => whnf)
  constructor
  · intro hlt
    have hlt : i < m0.length := by have : (i : Int) < (m0.length : Int) := of_decide_eq_true hlt; omega
    have hwi := hwD i hlt
    have htk := take_snoc (w := w) (i := i) (by omega)
    have hdr : w = w.take i ++ D i :: w.drop (i + 1) := by
      have h1 := (List.take_append_drop (i + 1) w).symm
      rw [htk, hwi, List.append_assoc] at h1
      exact h1
    have hin : D i ∈ m0 := hp.mem_iff.1 (by rw [hdr]; exact List.mem_append.2 (.inr (List.mem_cons_self ..)))
    have hpl := purE_len (m := m) (l := l) (s := (D i).1) (n := (D i).2) hg.cn.ord
    (conv => whnf)
    refine ⟨by show (0 : Int) ≤ (i : Int); omega, by show (i : Int) < (m0.length : Int); omega, ?_⟩
    (conv => whnf)
    refine ⟨by rw [ei]; exact hlt, ?_⟩
    rw [ei]
    (conv => whnf)
    refine ⟨⟨T, M, y, ns, m, f, l, (D i).1, (D i).2⟩, [1, 2, 3, 4], ⟨⟨hg, by show m.length ≤ 900000; omega⟩, by show 0 ≤ l; omega, hrg _ hin⟩, rfl, by (repeat' (first | exact True.intro | rfl | assumption | exact tn_ok rfl | exact tr_ok rfl | exact fun _ => rfl | (refine And.intro ?_ ?_) | (intro _ _; rfl) | ((conv => whnf); (first | exact True.intro | (refine And.intro ?_ ?_))))), by (repeat' (first | exact True.intro | rfl | assumption | exact tn_ok rfl | exact tr_ok rfl | exact fun _ => rfl | (refine And.intro ?_ ?_) | (intro _ _; rfl) | ((conv => whnf); (first | exact True.intro | (refine And.intro ?_ ?_))))), fun T2 M2 ns2 hg2 => ?_⟩
    have hg2 : TG T2 M2 y ns2 (purE m l (D i).1 (D i).2).1 := hg2
    (conv => whnf)
    constructor
    · intro hh
      have hh : (purE m l (D i).1 (D i).2).2.2 ≠ 0 := fun e => by
        have hh : (!decide ((purE m l (D i).1 (D i).2).2.2 = 0)) = true := hh
        rw [e] at hh
        cases hh
      have hF := hQ2 (hpi.bad (by rw [← hdr]; exact hp) (fun x hx => ?_) hh)
      · (conv => whnf)
        refine ⟨[], _, _, hF, ?_⟩
        (repeat' (first | exact True.intro | rfl | assumption | exact tn_ok rfl | exact tr_ok rfl | exact fun _ => rfl | (refine And.intro ?_ ?_) | (intro _ _; rfl) | ((conv => whnf); (first | exact True.intro | (refine And.intro ?_ ?_)))))
      · obtain ⟨j, hj, ej⟩ := List.mem_iff_getElem.1 hx
        rw [List.length_take] at hj
        rw [List.getElem_take] at ej
        have h1 := hs j i (by omega) hlt
        rw [← hwD j (by omega), List.getD_eq_getElem?_getD, List.getElem?_eq_getElem (by omega)] at h1
        have h1 : ¬ (D i).2 < (w[j]'(by omega)).2 := h1
        rwa [ej] at h1
    · intro hh
      have hh : (purE m l (D i).1 (D i).2).2.2 = 0 := by
        have hh : (!decide ((purE m l (D i).1 (D i).2).2.2 = 0)) = false := hh
        exact of_decide_eq_true (not_f hh)
      have hnx := hpi.next hh
      rw [← hwi, ← htk, hwi] at hnx
      (conv => whnf)
      refine ⟨⟨T2, M2, ns2, (purE m l (D i).1 (D i).2).1, (purE m l (D i).1 (D i).2).2.1, i + 1⟩, [some 1, some 2, some 3, some 4, some 5], by show m0.length - (i + 1) < m0.length - i; omega, ⟨⟨by show i + 1 ≤ m0.length; omega, by show (purE m l (D i).1 (D i).2).1.length ≤ i + 1; omega⟩, hg2, hnx⟩, ?_⟩
      (repeat' (first | exact True.intro | rfl | assumption | exact tn_ok rfl | exact tr_ok rfl | exact fun _ => rfl | (refine And.intro ?_ ?_) | (intro _ _; rfl) | ((conv => whnf); (first | exact True.intro | (refine And.intro ?_ ?_)))))
      all_goals exact (wrap_inc hlt (by omega)).symm
  intro hlt
  have hlt : i = m0.length := by have : ¬ (i : Int) < (m0.length : Int) := of_decide_eq_false hlt; omega
  rw [List.take_of_length_le (by omega)] at hpi
  have hsm := hg.cn.ord
  (conv => whnf)
  constructor
  rotate_left
  · intro hh
    have hh : last < l := of_decide_eq_true hh
    have hF := hQ2 (hpi.late hp hh)
    (conv => whnf)
    refine ⟨[], _, _, hF, ?_⟩
    (repeat' (first | exact True.intro | rfl | assumption | exact tn_ok rfl | exact tr_ok rfl | exact fun _ => rfl | (refine And.intro ?_ ?_) | (intro _ _; rfl) | ((conv => whnf); (first | exact True.intro | (refine And.intro ?_ ?_)))))
  intro hh
  have hh : l ≤ last := by have : ¬ last < l := of_decide_eq_false hh; omega
  (conv => whnf)
  refine ⟨⟨T, M, y, ns, m, f, l, eS, 0⟩, [1, 2, 3, 4], ⟨hg, by show m.length ≤ 900000; omega⟩, rfl, by (repeat' (first | exact True.intro | rfl | assumption | exact tn_ok rfl | exact tr_ok rfl | exact fun _ => rfl | (refine And.intro ?_ ?_) | (intro _ _; rfl) | ((conv => whnf); (first | exact True.intro | (refine And.intro ?_ ?_))))), by (repeat' (first | exact True.intro | rfl | assumption | exact tn_ok rfl | exact tr_ok rfl | exact fun _ => rfl | (refine And.intro ?_ ?_) | (intro _ _; rfl) | ((conv => whnf); (first | exact True.intro | (refine And.intro ?_ ?_))))), ?_⟩
  (conv => whnf)
  refine ⟨(m, m0), [6, 0], ⟨by show m.length ≤ 1000000; omega, by show m0.length ≤ 1000000; omega⟩, rfl, by (repeat' (first | exact True.intro | rfl | assumption | exact tn_ok rfl | exact tr_ok rfl | exact fun _ => rfl | (refine And.intro ?_ ?_) | (intro _ _; rfl) | ((conv => whnf); (first | exact True.intro | (refine And.intro ?_ ?_))))), by (repeat' (first | exact True.intro | rfl | assumption | exact tn_ok rfl | exact tr_ok rfl | exact fun _ => rfl | (refine And.intro ?_ ?_) | (intro _ _; rfl) | ((conv => whnf); (first | exact True.intro | (refine And.intro ?_ ?_))))), ?_⟩
  (conv => whnf)
  constructor
  · intro he
    have he : m ≠ m0 := fun e => by
      have he : (!decide (m = m0)) = true := he
      rw [e] at he
      simp at he
    have hF := hQ2 fun hr => he (hpi.same hp hsm hr)
    (conv => whnf)
    refine ⟨[], _, _, hF, ?_⟩
    (repeat' (first | exact True.intro | rfl | assumption | exact tn_ok rfl | exact tr_ok rfl | exact fun _ => rfl | (refine And.intro ?_ ?_) | (intro _ _; rfl) | ((conv => whnf); (first | exact True.intro | (refine And.intro ?_ ?_)))))
  · intro he
    have he : m = m0 := by
      have he : (!decide (m = m0)) = false := he
      exact of_decide_eq_true (not_f he)
    subst he
    have hF := hQ1 (hpi.right hp hsm hh) T M y ns hg
    (conv => whnf)
    refine ⟨[some 1, some 2, some 3, some 4], _, _, hF, ?_⟩
    (repeat' (first | exact True.intro | rfl | assumption | exact tn_ok rfl | exact tr_ok rfl | exact fun _ => rfl | (refine And.intro ?_ ?_) | (intro _ _; rfl) | ((conv => whnf); (first | exact True.intro | (refine And.intro ?_ ?_)))))
end Go.Proofs.Ytagpkejbbmpcgaa
