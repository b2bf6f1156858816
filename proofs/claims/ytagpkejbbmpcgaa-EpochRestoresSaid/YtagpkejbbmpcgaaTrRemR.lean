/- What Remove computes. -/
import Derived.Test.YtagpkejbbmpcgaaTrTid0R
namespace Go.Proofs.Ytagpkejbbmpcgaa
open Go Go.RowKit Sy Ti
set_option maxRecDepth 100000
set_option maxHeartbeats 4000000

structure TyX where
  T : Tt
  R : RowsN
  root : Nat
  ns : List Nat
  W : List Nat
  P : List Nat
  z : Nat
structure TyP (x : TyX) : Prop where
  ts : TS x.T x.R x.root x.ns
  cm : Cmp x.T x.root x.z
  path : PathI x.T x.root x.W x.P x.z
  len : x.W.length ≤ 251
theorem conTy : ConOk Try.prog (conOf [(72, STid.T)]) := conOf_cons (LSpec.call STid_nt STid_ok) conOf_nil
def STidy : LSpec where
  X := TyX
  k := 4
  pre := TyP
  args x θ := [.sl (θ 2) 0 1 x.W.length false, .sl (θ 3) 0 1 x.P.length false]
  objs x θ := objsT θ x.T x.R ++ [apR (θ 0) x.W, inR x.P]
  out x θ R := ∀ T' R' ns', TS T' R' x.root ns' → Cmp T' x.root x.root → sameV x.T T' → R (.tup []) (allT θ T' R' ++ [some (apR (θ 0) x.W), some (inR x.P)])
theorem STidy_nt : STidy.Nt := ⟨fun _ _ => rfl, by unfold STidy objsT; (intros; simp only [ren_all] at *; try assumption), by
  unfold STidy allT
  intro x θ R h T' R' ns' g1 g2 g3
  have := h T' R' ns' g1 g2 g3
  simp only [ren_all]
  exact this⟩
theorem STidy_ok : STidy.Ok Try.prog 62 := by
  refine LSpec.of_body noGo mixed conTy Try.func62 rfl (by kernel_rfl) fun X R hX hR => ?_
  obtain ⟨T0, R0, root, ns0, W, P, z⟩ := X
  have hts : TS T0 R0 root ns0 := hX.ts
  have hcm : Cmp T0 root z := hX.cm
  have hpa : PathI T0 root W P z := hX.path
  have hWl : W.length ≤ 251 := hX.len
  have hQ : ∀ T' R' ns', TS T' R' root ns' → Cmp T' root root → sameV T0 T' → R (.tup []) (allT _root_.id T' R' ++ [some (apR 0 W), some (inR P)]) := hR
  clear hX hR
  have hWP : W.length = P.length := hpa.len
  have hWp : 0 < W.length := hpa.pos
  have hI0 : TidL T0 root W P (W.length - 1) ⟨T0, R0, ns0, W.length - 1⟩ := by
    refine ⟨hts, fun _ _ _ => Iff.rfl, fun j hj => hpa.step j (by have hj : j < W.length - 1 := hj; omega), .inr ⟨?_, .inl rfl⟩⟩
    show Cmp T0 root (W.getD (W.length - 1) 0)
    rw [hpa.last]
    exact hcm
  have ww : IntKind.i64.wrap ((W.length : Int) - 1) = ((W.length - 1 : Nat) : Int) := by rw [wrap_id (by omega) (by omega)]; omega
  have ww2 : IntKind.i64.wrap ((W.length : Int) - 2) = (W.length : Int) - 2 := wrap_id (by omega) (by omega)
  have hhd : W.getD 0 0 = root := hpa.head
  clear hpa hcm hts
  show bodyP _ _ _ _ _ [.sl 2 0 1 W.length false, .sl 3 0 1 P.length false] ⟨4, Tr.ofL 0 (objsT _root_.id T0 R0 ++ [apR 0 W, inR P]) .leaf⟩ _
  (conv => whnf)
  refine .inl ⟨TyS, fun x => [(0, .sl 2 0 1 W.length false), (1, .sl 3 0 1 P.length false), (4, i64 x.k)], fun x => allT _root_.id x.T x.R ++ [some (apR 0 W), some (inR P)], fun x => x.k, fun x => x.k < W.length ∧ TidL T0 root W P (W.length - 1) x, 4, ⟨_, [], ⟨by show W.length - 1 < W.length; omega, hI0⟩, ?_⟩, fun _ => rfl, fun ⟨T, M, ns, k⟩ ⟨hk0, hI1⟩ => ?_⟩
  · (repeat' (first | exact True.intro | rfl | assumption | exact tn_ok rfl | exact tr_ok rfl | exact fun _ => rfl | (refine And.intro ?_ ?_) | (intro _ _; rfl) | ((conv => whnf); (first | exact True.intro | (refine And.intro ?_ ?_)))))
    all_goals exact ww.symm
  have hI : TidL T0 root W P (W.length - 1) ⟨T, M, ns, k⟩ := hI1
  have hkl : k < W.length := hk0
  clear hI0 hI1 hk0
  have hend : (k = 0 ∨ k + 2 < W.length) → Cmp T root root := fun q => by
    rcases hI.exc with c | ⟨c1, c2⟩
    · exact c
    · rcases q with rfl | q
      · have c1 : Cmp T root (W.getD 0 0) := c1
        rwa [hhd] at c1
      · rcases c2 with c2 | ⟨c2, _⟩
        · have c2 : k = W.length - 1 := c2
          omega
        · have c2 : k + 1 = W.length - 1 := c2
          omega
  have hout : (k = 0 ∨ k + 2 < W.length) → R (.tup []) (allT _root_.id T M ++ [some (apR 0 W), some (inR P)]) := fun q => hQ T M ns hI.ts (hend q) hI.same
  clear hend hQ
  (conv => whnf)
  constructor
  · intro h
    have h : 0 < k := by have : (0 : Int) < (k : Int) := of_decide_eq_true h; omega
    refine exIt (⟨k - 1, by omega⟩ : ∃ k', k = k' + 1) fun k' hk' => ?_
    subst hk'
    (conv => whnf)
    constructor
    · intro h2
      obtain ⟨d, dy, hx, hy, hp, hpy, hm⟩ := hI.at_ rfl
      have hpre := hI.pre hx hy hp hpy hm
      have hx : T (W.getD k' 0) = some d := hx
      have hstep : ∀ T' R', TidyTo ⟨T, M, W.getD k' 0, d, d.kids.take (P.getD (k' + 1) 0), W.getD (k' + 1) 0, d.kids.drop (P.getD (k' + 1) 0 + 1), dy⟩ T' → TR T' R' → ∃ ns', TidL T0 root W P (W.length - 1) ⟨T', R', ns', k'⟩ := fun T' R' => hI.step rfl hx hy hp hpy hm
      have wk : IntKind.i64.wrap (((k' + 1 : Nat) : Int) - 1) = ((k' : Nat) : Int) := by rw [wrap_id (by omega) (by omega)]; omega
      have ek := zero_add_toNat k'
      have ek1 := zero_add_toNat (k' + 1)
      have htk : (d.kids.take (P.getD (k' + 1) 0)).length = P.getD (k' + 1) 0 := by rw [List.length_take]; omega
      clear hout hI
      (conv => whnf)
      rw [show IntKind.i64.wrap (((TyS.mk T M ns (k' + 1)).k : Int) - 1) = ((k' : Nat) : Int) from wk]
      refine ⟨Int.natCast_nonneg _, by show ((k' : Nat) : Int) < (W.length : Int); omega, ?_⟩
      (conv => whnf)
      rw [ek]
      refine ⟨by show k' < W.length; omega, ?_⟩
      (conv => whnf)
      refine ⟨by show (0 : Int) ≤ ((k' + 1 : Nat) : Int); omega, by show ((k' + 1 : Nat) : Int) < (P.length : Int); omega, ?_⟩
      (conv => whnf)
      rw [show (((TyS.mk T M ns (k' + 1)).k : Nat) : Int).toNat = k' + 1 from Int.toNat_natCast _]
      rw [Nat.zero_add]
      refine ⟨by omega, ?_⟩
      (conv => whnf)
      refine ⟨⟨T, M, W.getD k' 0, d, d.kids.take (P.getD (k' + 1) 0), W.getD (k' + 1) 0, d.kids.drop (P.getD (k' + 1) 0 + 1), dy⟩, [0, 1], hpre, rfl, (by
        (repeat' (first | exact True.intro | rfl | assumption | exact tn_ok rfl | exact tr_ok rfl | exact fun _ => rfl | (refine And.intro ?_ ?_) | (intro _ _; rfl) | ((conv => whnf); (first | exact True.intro | (refine And.intro ?_ ?_)))))
        all_goals exact congrArg (fun n : Nat => (n : Int)) htk), by (repeat' (first | exact True.intro | rfl | assumption | exact tn_ok rfl | exact tr_ok rfl | exact fun _ => rfl | (refine And.intro ?_ ?_) | (intro _ _; rfl) | ((conv => whnf); (first | exact True.intro | (refine And.intro ?_ ?_))))), fun T' R' hT htr => ?_⟩
      refine exIt (hstep T' R' hT htr) fun ns' hI' => ?_
      (conv => whnf)
      refine ⟨⟨T', R', ns', k'⟩, [], Nat.lt_succ_self k', ⟨by show k' < W.length; omega, hI'⟩, ?_⟩
      (repeat' (first | exact True.intro | rfl | assumption | exact tn_ok rfl | exact tr_ok rfl | exact fun _ => rfl | (refine And.intro ?_ ?_) | (intro _ _; rfl) | ((conv => whnf); (first | exact True.intro | (refine And.intro ?_ ?_)))))
      all_goals exact wk.symm
    · intro h2
      have h2 : k' + 1 + 2 < W.length := by
        have h2 : ¬ IntKind.i64.wrap ((W.length : Int) - 2) ≤ ((k' + 1 : Nat) : Int) := of_decide_eq_false h2
        rw [ww2] at h2
        omega
      have hF := hout (.inr h2)
      (conv => whnf)
      refine ⟨[], _, _, hF, ?_⟩
      (repeat' (first | exact True.intro | rfl | assumption | exact tn_ok rfl | exact tr_ok rfl | exact fun _ => rfl | (refine And.intro ?_ ?_) | (intro _ _; rfl) | ((conv => whnf); (first | exact True.intro | (refine And.intro ?_ ?_)))))
  · intro h
    have h : k = 0 := by have : ¬ (0 : Int) < (k : Int) := of_decide_eq_false h; omega
    have hF := hout (.inl h)
    (conv => whnf)
    refine ⟨[], _, _, hF, ?_⟩
    (repeat' (first | exact True.intro | rfl | assumption | exact tn_ok rfl | exact tr_ok rfl | exact fun _ => rfl | (refine And.intro ?_ ?_) | (intro _ _; rfl) | ((conv => whnf); (first | exact True.intro | (refine And.intro ?_ ?_)))))
end Go.Proofs.Ytagpkejbbmpcgaa
