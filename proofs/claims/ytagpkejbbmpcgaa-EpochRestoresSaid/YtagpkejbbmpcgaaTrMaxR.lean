/- What Longest and Max compute. -/
import Derived.Test.YtagpkejbbmpcgaaTrWalkR
namespace Go.Proofs.Ytagpkejbbmpcgaa
open Go Go.RowKit Sy Ti
set_option maxRecDepth 100000
set_option maxHeartbeats 4000000

def MaxTo (T : Tt) (s : Bs) (m : Int) : Prop :=
  (¬ s.size ≤ 250 ∧ m = 0) ∨ (s.size ≤ 250 ∧ (∀ q v, v ≠ 0 → Pre q s → val T q v → v ≤ m) ∧ (m = 0 ∨ ∃ q, Pre q s ∧ val T q m))
section
variable {T : Tt} {R : RowsN} {root : Nat} {ns L D : List Nat} {s : Bs}
end
theorem conLg : ConOk Try.prog (conOf [(44, SChk.T), (50, SWalk.T)]) :=
  conOf_cons (LSpec.call SChk_nt SChk_ok) (conOf_cons (LSpec.call SWalk_nt SWalk_ok) conOf_nil)
theorem MaxTo.fin {T : Tt} {R : RowsN} {root : Nat} {ns L D : List Nat} {s : Bs} {m : Int} (h : WkI T s L D (s.size + 1)) (ht : TS T R root ns) (hs : s.size ≤ 250) (h1 : ∀ q, q < L.length → ∀ d, T (L.getD q 0) = some d → d.n ≤ m) (h2 : m = 0 ∨ ∃ q, Pre q s ∧ val T q m) : MaxTo T s m := by
  refine .inr ⟨hs, fun q v hv hp ⟨b, d, g1, g2, g3⟩ => ?_, h2⟩
  subst g2
  have := (ht.rng b d g1).1
  obtain ⟨k, hk, hb⟩ := h.all b d g1 (by omega) hp (Nat.lt_succ_of_le hp.le)
  rw [← g3]
  exact h1 k hk d (hb ▸ g1)
def SMax : LSpec where
  X := PathX
  k := 3
  pre x := TS x.T x.R x.root x.ns
  args x θ := [.ptr (θ 0) 0, .str x.s]
  objs x θ := objsG θ x.T x.R x.root x.many
  out x θ R := ∀ m, MaxTo x.T x.s m → R (u64 m) (allG θ x.T x.R x.root x.many)
theorem SMax_ok : SMax.Ok Try.prog 32 := by
  refine LSpec.of_body noGo mixed conLg Try.func32 rfl (by kernel_rfl) fun X R hX hR => ?_
  obtain ⟨T, M, root, ns, many, s⟩ := X
  have hts : TS T M root ns := hX
  have hQ : ∀ m, MaxTo T s m → R (u64 m) (allG _root_.id T M root many) := hR
  clear hX hR
  show bodyP _ _ _ _ _ [.ptr 0 0, .str s] ⟨3, Tr.ofL 0 (objsG _root_.id T M root many) .leaf⟩ _
  (conv => whnf)
  refine ⟨((T, M), (root, many), s), [0, 1, 2], trivial, rfl, by (repeat' (first | exact True.intro | rfl | assumption | exact tn_ok rfl | exact tr_ok rfl | exact fun _ => rfl | (refine And.intro ?_ ?_) | (intro _ _; rfl) | ((conv => whnf); (first | exact True.intro | (refine And.intro ?_ ?_))))), by (repeat' (first | exact True.intro | rfl | assumption | exact tn_ok rfl | exact tr_ok rfl | exact fun _ => rfl | (refine And.intro ?_ ?_) | (intro _ _; rfl) | ((conv => whnf); (first | exact True.intro | (refine And.intro ?_ ?_))))), ?_⟩
  (conv => whnf)
  constructor
  · intro h
    have h : ¬ s.size ≤ 250 := fun q => by
      have : (!decide (eP s = 0)) = true := h
      unfold eP at this
      rw [if_pos q] at this
      cases this
    have hF := hQ 0 (.inl ⟨h, rfl⟩)
    (conv => whnf)
    refine ⟨[], _, _, hF, ?_⟩
    (repeat' (first | exact True.intro | rfl | assumption | exact tn_ok rfl | exact tr_ok rfl | exact fun _ => rfl | (refine And.intro ?_ ?_) | (intro _ _; rfl) | ((conv => whnf); (first | exact True.intro | (refine And.intro ?_ ?_)))))
  · intro h
    have h : s.size ≤ 250 := Decidable.byContradiction fun q => by
      have : (!decide (eP s = 0)) = false := h
      unfold eP at this
      rw [if_neg q] at this
      cases this
    (conv => whnf)
    refine ⟨⟨T, M, root, ns, many, s⟩, [0, 1, 2], ⟨hts, h⟩, rfl, by (repeat' (first | exact True.intro | rfl | assumption | exact tn_ok rfl | exact tr_ok rfl | exact fun _ => rfl | (refine And.intro ?_ ?_) | (intro _ _; rfl) | ((conv => whnf); (first | exact True.intro | (refine And.intro ?_ ?_))))), by (repeat' (first | exact True.intro | rfl | assumption | exact tn_ok rfl | exact tr_ok rfl | exact fun _ => rfl | (refine And.intro ?_ ?_) | (intro _ _; rfl) | ((conv => whnf); (first | exact True.intro | (refine And.intro ?_ ?_))))), fun L D hw => ?_⟩
    have hw : WkI T s L D (s.size + 1) := hw
    have hln := hw.num
    (conv => whnf)
    refine .inl ⟨Nat × Int, fun x => [(5, u64 x.2), (20, .sl 3 0 1 L.length false), (21, i64 L.length), (22, i64 x.1)], fun _ => allG _root_.id T M root many ++ [some (apR 1 L), none], fun x => L.length - x.1, fun x => x.1 ≤ L.length ∧ (∀ q, q < x.1 → ∀ d, T (L.getD q 0) = some d → d.n ≤ x.2) ∧ (x.2 = 0 ∨ ∃ q, Pre q s ∧ val T q x.2) ∧ 0 ≤ x.2, 5, ⟨(0, 0), [some 3, none], ⟨Nat.zero_le _, fun q hq => absurd hq (Nat.not_lt_zero q), .inl rfl, Int.le_refl 0⟩, ?_⟩, fun _ => rfl, fun ⟨i, m⟩ ⟨hi0, h10, h20, h30⟩ => ?_⟩
    · (repeat' (first | exact True.intro | rfl | assumption | exact tn_ok rfl | exact tr_ok rfl | exact fun _ => rfl | (refine And.intro ?_ ?_) | (intro _ _; rfl) | ((conv => whnf); (first | exact True.intro | (refine And.intro ?_ ?_)))))
    have hi : i ≤ L.length := hi0
    have h1 : ∀ q, q < i → ∀ d, T (L.getD q 0) = some d → d.n ≤ m := h10
    have h2 : m = 0 ∨ ∃ q, Pre q s ∧ val T q m := h20
    have h3 : 0 ≤ m := h30
    clear hi0 h10 h20 h30
    have ei := zero_add_toNat i
    (conv => whnf)
    constructor
    · intro g
      have g : i < L.length := by have : (i : Int) < (L.length : Int) := of_decide_eq_true g; omega
      refine exIt (hw.at_ i g) fun d hd => ?_
      (conv => whnf)
      refine ⟨Int.natCast_nonneg _, by show (i : Int) < (L.length : Int); omega, ?_⟩
      (conv => whnf)
      rw [ei]
      refine ⟨by show i < L.length; exact g, ?_⟩
      (conv => whnf)
      refine ⟨ndL 2 d, by show (T (L.getD i 0)).map (ndL 2) = _; rw [hd.1]; rfl, ?_⟩
      have hmm : m ≤ mmI false m d.n ∧ d.n ≤ mmI false m d.n ∧ (mmI false m d.n = m ∨ mmI false m d.n = d.n) := by
        unfold mmI
        rw [if_neg (by decide)]
        split <;> omega
      (conv => whnf)
      refine ⟨(i + 1, mmI false m d.n), [some 3, none], by show L.length - (i + 1) < L.length - i; omega, ⟨by show i + 1 ≤ L.length; omega, fun q hq e he => ?_, ?_, by show 0 ≤ mmI false m d.n; omega⟩, ?_⟩
      · show e.n ≤ mmI false m d.n
        have hq : q < i + 1 := hq
        rcases Nat.lt_or_ge q i with g2 | g2
        · have := h1 q g2 e he
          omega
        · obtain rfl : q = i := by omega
          rw [hd.1] at he; cases he
          exact hmm.2.1
      · show mmI false m d.n = 0 ∨ ∃ q, Pre q s ∧ val T q (mmI false m d.n)
        rcases hmm.2.2 with e | e
        · rw [e]; exact h2
        · rw [e]; exact .inr ⟨d.str, hd.2.2.1, _, d, hd.1, rfl, rfl⟩
      (repeat' (first | exact True.intro | rfl | assumption | exact tn_ok rfl | exact tr_ok rfl | exact fun _ => rfl | (refine And.intro ?_ ?_) | (intro _ _; rfl) | ((conv => whnf); (first | exact True.intro | (refine And.intro ?_ ?_)))))
      all_goals exact (wrap_inc g (by omega)).symm
    · intro g
      have g : i = L.length := by have : ¬ (i : Int) < (L.length : Int) := of_decide_eq_false g; omega
      have hF := hQ m (MaxTo.fin hw hts h (fun q hq => h1 q (by omega)) h2)
      (conv => whnf)
      refine ⟨[], _, _, hF, ?_⟩
      (repeat' (first | exact True.intro | rfl | assumption | exact tn_ok rfl | exact tr_ok rfl | exact fun _ => rfl | (refine And.intro ?_ ?_) | (intro _ _; rfl) | ((conv => whnf); (first | exact True.intro | (refine And.intro ?_ ?_)))))
end Go.Proofs.Ytagpkejbbmpcgaa
